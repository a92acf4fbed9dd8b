/-
  Lists of crews, hours and metres that are drawn: walked.
-/
import Derived.Test.YthbjgccldoofgaaCrewDraw
import Derived.Test.YthbjgccldoofgaaCrewOut
import Derived.Test.YthbjgccldoofgaaPlan
namespace Go.Proofs.Ythbjgccldoofgaa
open Go.RowKit

set_option maxHeartbeats 4000000 in
set_option maxRecDepth 100000 in
theorem crewsC (W : World) (g : Nat) (A : Option Addr) (n c : Nat) (cs : List Int) (B : Nat) (w : World) (hC : Code W A n c cs) (h : Cur W g A n c B w) (hB : B ≤ 800000) :
    Calls Try.prog 52 #[.pointer (some ⟨g, 0, none⟩)] w fun e w' => ∃ (A' : Option Addr) (m c' : Nat) (xs : List Crew), e = .returned (.slice A' m c') ∧ Own w.heap.size w'.heap.size w' 25 5 A' m c' (xs.flatMap Crew.row) ∧ m ≤ 8 ∧ Cur W g A n c (B + 200) w' ∧ w.grownBy w' (some g) := by
  have hgl := h.lt
  go_enter Try.func52, Try.ntmps52
  go_wp2_with fail
  refine (pickC W g A n c cs B 5 _ hC (h.kept (bel_alloc (bel_refl _))) (by omega) (by omega)).mono ?_
  rintro _ w1 ⟨r, rfl, ⟨hr0, hr1⟩, hc1, hg1⟩
  obtain ⟨k0, rfl⟩ := Int.eq_ofNat_of_zero_le hr0
  have hk0 : k0 ≤ 4 := by omega
  have hG1 := gro_trans (gro_bel (r := some g) (bel_alloc (o := .cells #[] 25) (bel_refl w))) hg1
  have hown1 := own_gro (own_empty (w := w) (size := 5) (e := 25) (Nat.le_refl _)) hg1 hgl
  clear hr0 hr1 hg1
  go_wp2_with fail
  go_loopw [3, 4, 5] (fun q i v wr => ∃ (k m : Nat) (idv : Int), m + k ≤ 4 ∧ v = .int .i64 k ∧ i = .int .i64 idv ∧ 0 ≤ idv ∧ idv + 3 * k ≤ 12 ∧ (∃ (A' : Option Addr) (c' : Nat) (xs : List Crew), q = .slice A' m c' ∧ wr.ownsRow w.heap.size 25 5 (.slice A' m c') m (xs.flatMap Crew.row)) ∧ Cur W g A n c (B + 2 + 24 * m) wr ∧ w.grownBy wr (some g)) (fun _ _ v _ => (intOf v).toNat)
  case atStart => exact ⟨k0, 0, 0, by omega, rfl, rfl, by omega, by omega, ⟨_, _, [], rfl, hown1⟩, hc1, hG1⟩
  case round =>
    clear hown1 hc1 hG1
    obtain ⟨k, m, idv, hmk, rfl, rfl, hi0, hi1, ⟨A', c', xs, rfl, hown⟩, hc, hG⟩ := hrel
    by_cases hk : 0 < k
    · have hkI : (0 : Int) < (k : Int) := by omega
      go_wp2_with fail
      refine (pickC W g A n c cs _ 3 _ hC hc (by omega) (by omega)).mono ?_
      rintro _ w2 ⟨a, rfl, ⟨ha0, ha1⟩, hc2, hg2⟩
      have ha2 : a ≤ 2 := by omega
      clear ha1
      go_wp2_with fail
      refine (pickC W g A n c cs _ 60 _ hC hc2 (by omega) (by omega)).mono ?_
      rintro _ w3 ⟨b, rfl, ⟨hb0, hb1⟩, hc3, hg3⟩
      have hb2 : b ≤ 59 := by omega
      have hq0 : 0 ≤ b / 59 ∧ b / 59 ≤ 1 := by omega
      clear hb1
      go_wp2_with fail
      refine (crewC W g A n c cs _ _ _ hC hc3 (by omega)).mono ?_
      rintro _ w4 ⟨x, rfl, hc4, hg4⟩
      have hown4 := own_gro (own_gro (own_gro hown hg2 hgl) hg3 hgl) hg4 hgl
      have hG4 := gro_trans (gro_trans (gro_trans hG hg2) hg3) hg4
      clear hown hG hg2 hg3 hg4 hc hc2 hc3
      go_wp2_with (at_builtin; refine wpList_push rfl (.tmp 22) (.tmp 26) 36 rfl w.heap.size 25 (.agg #[.int .i64 0, .int .i64 0, .int .i64 0, .int .i64 0, .int .i64 0]) 5 40 Try.underlying36 info_Crew rfl (by omega) A' m c' _ [.int .i64 x.id, .int .i64 x.rate, .int .i64 x.tires, .int .i64 x.shift, .int .i64 x.start] 25 rfl hown4 rfl rfl (oneCell_crew x) (by omega) (by omega) hG4.size ?_; intro A'' c'' w5 hown5 hb5 hg5)
      have hc5 := cur_push hc4 hg5 hown4 hgl
      have hG5 := gro_push hG4 hg5 hown4 (Nat.le_refl _)
      go_roundw
      case rel => exact ⟨k - 1, m + 1, _, by omega, by (congr 1; omega), rfl, by omega, by omega, ⟨_, _, xs ++ [x], rfl, by rw [List.flatMap_append]; simpa [Crew.row] using hown5⟩, hc5.up (by omega), hG5⟩
      case measure => simp [intOf]; omega
    · have hkI : ¬ (0 : Int) < (k : Int) := by omega
      go_wp2_with fail
      refine (oneC W g A n c cs _ 24 _ hC hc (by omega) (by omega)).mono ?_
      rintro _ w2 ⟨b, rfl, hc2, hg2⟩
      have hown2 := own_gro hown hg2 hgl
      have hG2 := gro_trans hG hg2
      have hm4 : m ≤ 4 := by omega
      have hi2 : idv ≤ 12 := by omega
      clear hown hG hc hg2 hkI hk hmk
      rcases b with _ | _
      · go_wp2_with fail
        go_ret
        exact ⟨A', m, c', xs, rfl, Own.mk_ hown2, by omega, hc2.up (by omega), hG2⟩
      · go_wp2_with fail
        go_loopw [3, 4] (fun q i wr => ∃ (m : Nat) (idv : Int), m ≤ 8 ∧ i = .int .i64 idv ∧ 0 ≤ idv ∧ idv ≤ 12 + m ∧ (∃ (A' : Option Addr) (c' : Nat) (xs : List Crew), q = .slice A' m c' ∧ wr.ownsRow w.heap.size 25 5 (.slice A' m c') m (xs.flatMap Crew.row)) ∧ Cur W g A n c (B + 2 + 24 * 4 + 2 + 2 * m) wr ∧ w.grownBy wr (some g)) (fun q _ _ => match q with | .slice _ m _ => 8 - m | _ => 0)
        case atStart => exact ⟨m, idv, by omega, rfl, by omega, by omega, ⟨_, _, xs, rfl, hown2⟩, hc2.up (by omega), hG2⟩
        case round =>
          clear hown2 hc2 hG2 hi0 hi1 hi2 hm4
          obtain ⟨m, idv, hm8, rfl, hi0, hi1, ⟨A', c', xs, rfl, hown⟩, hc, hG⟩ := hrel
          go_wp2_with fail
          refine (pickC W g A n c cs _ 2 _ hC hc (by omega) (by omega)).mono ?_
          rintro _ w2 ⟨a, rfl, ⟨ha0, ha1⟩, hc2, hg2⟩
          have ha2 : a ≤ 1 := by omega
          clear ha1
          have hown2 := own_gro hown hg2 hgl
          have hG2 := gro_trans hG hg2
          clear hown hG hc hg2
          by_cases hlt : (m : Int) < 6 + a
          · go_wp2_with (at_builtin; refine wpList_push rfl (.tmp 38) (.tmp 41) 36 rfl w.heap.size 25 (.agg #[.int .i64 0, .int .i64 0, .int .i64 0, .int .i64 0, .int .i64 0]) 5 40 Try.underlying36 info_Crew rfl (by omega) A' m c' _ [.int .i64 (idv + 1), .int .i64 10, .int .i64 0, .int .i64 8, .int .i64 0] 25 rfl hown2 rfl rfl (oneCell_crew ⟨idv + 1, 10, 0, 8, 0⟩) (by omega) (by omega) hG2.size ?_; intro A'' c'' w5 hown5 hb5 hg5)
            have hc5 := cur_push hc2 hg5 hown2 hgl
            have hG5 := gro_push hG2 hg5 hown2 (Nat.le_refl _)
            go_roundw
            case rel => exact ⟨m + 1, idv + 1, by omega, rfl, by omega, by omega, ⟨_, _, xs ++ [⟨idv + 1, 10, 0, 8, 0⟩], rfl, by rw [List.flatMap_append]; simpa [Crew.row] using hown5⟩, hc5.up (by omega), hG5⟩
            case measure => simp; omega
          · go_wp2_with fail
            go_ret
            exact ⟨A', m, c', xs, rfl, Own.mk_ hown2, by omega, hc2.up (by omega), hG2⟩
theorem Sl.part {w : World} {b o m c k : Nat} {xs : List Int} (h : Sl w 1 (some ⟨b, o, none⟩) m c (ints xs)) (hk : k ≤ m) : Sl w 1 (some ⟨b, o, none⟩) k c (ints (xs.take k)) := by
  have hl := h.int_len
  have hc := h.cap
  refine ⟨by rw [ints_len, List.length_take]; omega, by omega, h.max, fun hn => ?_⟩
  obtain ⟨b', o', e, hb, hcl⟩ := h.at_ (by omega)
  refine ⟨b', o', e, hb, fun j v hv => hcl j v ?_⟩
  have : ints (xs.take k) = (ints xs).take k := by simp [ints, List.map_take]
  rw [this, List.getElem?_take] at hv
  split at hv
  · exact hv
  · cases hv
set_option maxHeartbeats 4000000 in
set_option maxRecDepth 100000 in
theorem hour10C (W : World) (g : Nat) (A : Option Addr) (n c : Nat) (cs : List Int) (B : Nat) (w : World) (hC : Code W A n c cs) (h : Cur W g A n c B w) (hB : B ≤ 900000) :
    Calls Try.prog 33 #[.pointer (some ⟨g, 0, none⟩)] w fun e w' => ∃ x : Int, e = .returned (.int .i64 x) ∧ (-1 ≤ x ∧ x ≤ 20001) ∧ Cur W g A n c (B + 4) w' ∧ w.grownBy w' (some g) := by
  have hgl := h.lt
  have hlit := lit_sl (w := w) (T := 3) (xs := [0, 1, 8, 23, 24, 50, 239, 240, -1, 241]) rfl (k := 10) rfl (by simp [maxLen]) rfl
  go_enter Try.func33, Try.ntmps33
  go_wp2_with fail
  refine (pickC W g A n c cs _ 24 _ hC (h.kept (bel_alloc (bel_refl _))) (by omega) (by omega)).mono ?_
  rintro _ w1 ⟨r, rfl, ⟨hr0, hr1⟩, hc1, hg1⟩
  have hr2 : 0 ≤ r / 11 ∧ r / 11 ≤ 2 := by omega
  replace hlit := hlit.gro hg1 (ne_lit hgl)
  clear hr1
  obtain ⟨k, hk⟩ : ∃ k : Nat, r / 11 = k := ⟨(r / 11).toNat, by omega⟩
  have hk2 : k ≤ 2 := by omega
  have hG := gro_trans (gro_bel (r := some g) (bel_alloc (bel_refl w))) hg1
  clear hg1
  go_wp2_with fail
  refine (amongC W g A n c cs _ _ _ _ _ _ hC hc1 (by omega) (hlit.part (k := 8 + k) (by omega)) (by omega) (ne_lit hgl)).mono ?_
  rintro _ w2 ⟨x, rfl, hx, hc2, hg2⟩
  replace hx := List.mem_of_mem_take hx
  have hxb : -1 ≤ x ∧ x ≤ 20001 := by simp at hx; omega
  clear hx
  go_wp2_with fail
  go_ret
  exact ⟨x, rfl, hxb, hc2, gro_trans hG hg2⟩
set_option maxHeartbeats 4000000 in
set_option maxRecDepth 100000 in
theorem metresC (W : World) (g : Nat) (A : Option Addr) (n c : Nat) (cs : List Int) (B : Nat) (w : World) (hC : Code W A n c cs) (h : Cur W g A n c B w) (hB : B ≤ 900000) :
    Calls Try.prog 41 #[.pointer (some ⟨g, 0, none⟩)] w fun e w' => ∃ x : Int, e = .returned (.int .i64 x) ∧ (-1 ≤ x ∧ x ≤ 20001) ∧ Cur W g A n c (B + 4) w' ∧ w.grownBy w' (some g) := by
  have hgl := h.lt
  have hlit := lit_sl (w := w) (T := 3) (xs := [0, 1, 100, 700, 3000, 20000, -1, 20001]) rfl (k := 8) rfl (by simp [maxLen]) rfl
  go_enter Try.func41, Try.ntmps41
  go_wp2_with fail
  refine (pickC W g A n c cs _ 24 _ hC (h.kept (bel_alloc (bel_refl _))) (by omega) (by omega)).mono ?_
  rintro _ w1 ⟨r, rfl, ⟨hr0, hr1⟩, hc1, hg1⟩
  have hr2 : 0 ≤ r / 11 ∧ r / 11 ≤ 2 := by omega
  replace hlit := hlit.gro hg1 (ne_lit hgl)
  clear hr1
  obtain ⟨k, hk⟩ : ∃ k : Nat, r / 11 = k := ⟨(r / 11).toNat, by omega⟩
  have hk2 : k ≤ 2 := by omega
  have hG := gro_trans (gro_bel (r := some g) (bel_alloc (bel_refl w))) hg1
  clear hg1
  go_wp2_with fail
  refine (amongC W g A n c cs _ _ _ _ _ _ hC hc1 (by omega) (hlit.part (k := 6 + k) (by omega)) (by omega) (ne_lit hgl)).mono ?_
  rintro _ w2 ⟨x, rfl, hx, hc2, hg2⟩
  replace hx := List.mem_of_mem_take hx
  have hxb : -1 ≤ x ∧ x ≤ 20001 := by simp at hx; omega
  clear hx
  go_wp2_with fail
  go_ret
  exact ⟨x, rfl, hxb, hc2, gro_trans hG hg2⟩
theorem code_start {W : World} {A : Option Addr} {n c : Nat} {B : Nat} {w : World} (hb : Below W.heap.size W w) : Cur W w.heap.size A n c B (w.alloc (.cells #[.slice A n c, .int .i64 0, .int .u64 0] 47)) :=
  ⟨bel_alloc hb, hb.size, 0, 0, heap_alloc_new w _, by omega, by omega, by omega⟩
theorem draw_bel {W w w' : World} {g : Nat} (hb : Below W.heap.size W w) (hg : w.grownBy w' (some g)) (hl : W.heap.size ≤ g) : Below W.heap.size W w' := hb.grown hg hb.size fun k hk => by cases hk; exact hl
set_option maxHeartbeats 4000000 in
set_option maxRecDepth 100000 in
theorem drawTogether (A : Option Addr) (n c : Nat) (cs : List Int) (w : World) (hC : Code w A n c cs) :
    Calls Try.prog 26 #[.slice A n c] w fun e w' => ∃ (A' : Option Addr) (m c' : Nat) (xs : List Crew) (v : Int), e = .returned (.tuple #[.slice A' m c', .int .i64 v]) ∧ Own w.heap.size w'.heap.size w' 25 5 A' m c' (xs.flatMap Crew.row) ∧ m ≤ 8 ∧ (-1 ≤ v ∧ v ≤ 20001) ∧ Below w.heap.size w w' := by
  go_enter Try.func26, Try.ntmps26
  go_wp2_with fail
  refine (crewsC w w.heap.size A n c cs 0 _ hC (code_start (bel_refl w)) (by omega)).mono ?_
  rintro _ w1 ⟨A', m, c', xs, rfl, hO, hm, hc1, hg1⟩
  go_wp2_with fail
  refine (hour10C w w.heap.size A n c cs _ w1 hC hc1 (by omega)).mono ?_
  rintro _ w2 ⟨v, rfl, hv, hc2, hg2⟩
  go_wp2_with fail
  go_ret2
  exact ⟨A', m, c', xs, v, rfl, Own.mk_ (own_low (own_gro hO.own hg2 (by simp)) (by simp)), hm, hv, hc2.bel⟩
set_option maxHeartbeats 4000000 in
set_option maxRecDepth 100000 in
theorem drawHours (A : Option Addr) (n c : Nat) (cs : List Int) (w : World) (hC : Code w A n c cs) :
    Calls Try.prog 50 #[.slice A n c] w fun e w' => ∃ (A' : Option Addr) (m c' : Nat) (xs : List Crew) (v : Int), e = .returned (.tuple #[.slice A' m c', .int .i64 v]) ∧ Own w.heap.size w'.heap.size w' 25 5 A' m c' (xs.flatMap Crew.row) ∧ m ≤ 8 ∧ (-1 ≤ v ∧ v ≤ 20001) ∧ Below w.heap.size w w' := by
  go_enter Try.func50, Try.ntmps50
  go_wp2_with fail
  refine (crewsC w w.heap.size A n c cs 0 _ hC (code_start (bel_refl w)) (by omega)).mono ?_
  rintro _ w1 ⟨A', m, c', xs, rfl, hO, hm, hc1, hg1⟩
  go_wp2_with fail
  refine (metresC w w.heap.size A n c cs _ w1 hC hc1 (by omega)).mono ?_
  rintro _ w2 ⟨v, rfl, hv, hc2, hg2⟩
  go_wp2_with fail
  go_ret2
  exact ⟨A', m, c', xs, v, rfl, Own.mk_ (own_low (own_gro hO.own hg2 (by simp)) (by simp)), hm, hv, hc2.bel⟩
theorem drawIdle (A : Option Addr) (n c : Nat) (cs : List Int) (w : World) (hC : Code w A n c cs) :
    Calls Try.prog 17 #[.slice A n c] w fun e w' => ∃ (A' : Option Addr) (m c' : Nat) (xs : List Crew) (v : Int), e = .returned (.tuple #[.slice A' m c', .int .i64 v]) ∧ Own w.heap.size w'.heap.size w' 25 5 A' m c' (xs.flatMap Crew.row) ∧ m ≤ 8 ∧ (-1 ≤ v ∧ v ≤ 20001) ∧ Below w.heap.size w w' := by
  go_enter Try.func17, Try.ntmps17
  go_wp2_with fail
  refine (drawTogether A n c cs w hC).mono ?_
  rintro _ w1 ⟨A', m, c', xs, v, rfl, hO, hm, hv, hb⟩
  go_wp2_with fail
  go_ret2
  exact ⟨A', m, c', xs, v, rfl, hO, hm, hv, hb⟩
theorem drawShare (A : Option Addr) (n c : Nat) (cs : List Int) (w : World) (hC : Code w A n c cs) :
    Calls Try.prog 21 #[.slice A n c] w fun e w' => ∃ (A' : Option Addr) (m c' : Nat) (xs : List Crew) (v : Int), e = .returned (.tuple #[.slice A' m c', .int .i64 v]) ∧ Own w.heap.size w'.heap.size w' 25 5 A' m c' (xs.flatMap Crew.row) ∧ m ≤ 8 ∧ (-1 ≤ v ∧ v ≤ 20001) ∧ Below w.heap.size w w' := by
  go_enter Try.func21, Try.ntmps21
  go_wp2_with fail
  refine (drawHours A n c cs w hC).mono ?_
  rintro _ w1 ⟨A', m, c', xs, v, rfl, hO, hm, hv, hb⟩
  go_wp2_with fail
  go_ret2
  exact ⟨A', m, c', xs, v, rfl, hO, hm, hv, hb⟩
theorem drawWithout (A : Option Addr) (n c : Nat) (cs : List Int) (w : World) (hC : Code w A n c cs) :
    Calls Try.prog 29 #[.slice A n c] w fun e w' => ∃ (A' : Option Addr) (m c' : Nat) (xs : List Crew) (v : Int), e = .returned (.tuple #[.slice A' m c', .int .i64 v]) ∧ Own w.heap.size w'.heap.size w' 25 5 A' m c' (xs.flatMap Crew.row) ∧ m ≤ 8 ∧ (-1 ≤ v ∧ v ≤ 20001) ∧ Below w.heap.size w w' := by
  go_enter Try.func29, Try.ntmps29
  go_wp2_with fail
  refine (drawHours A n c cs w hC).mono ?_
  rintro _ w1 ⟨A', m, c', xs, v, rfl, hO, hm, hv, hb⟩
  go_wp2_with fail
  go_ret2
  exact ⟨A', m, c', xs, v, rfl, hO, hm, hv, hb⟩
set_option maxHeartbeats 4000000 in
set_option maxRecDepth 100000 in
theorem drawBuilt (A : Option Addr) (n c : Nat) (cs : List Int) (w : World) (hC : Code w A n c cs) :
    Calls Try.prog 6 #[.slice A n c] w fun e w' => ∃ (x : Crew) (v : Int), e = .returned (.tuple #[.agg #[.int .i64 x.id, .int .i64 x.rate, .int .i64 x.tires, .int .i64 x.shift, .int .i64 x.start], .int .i64 v]) ∧ (-1 ≤ v ∧ v ≤ 20001) ∧ Below w.heap.size w w' := by
  have hp0 := heap_alloc_new w (.cells #[.int .i64 0, .int .i64 0, .int .i64 0, .int .i64 0, .int .i64 0] 25)
  have hst : Cur w (w.heap.size + 1) A n c 0 ((w.alloc (.cells #[.int .i64 0, .int .i64 0, .int .i64 0, .int .i64 0, .int .i64 0] 25)).alloc (.cells #[.slice A n c, .int .i64 0, .int .u64 0] 47)) := by simpa using code_start (A := A) (n := n) (c := c) (B := 0) (bel_alloc (o := .cells #[.int .i64 0, .int .i64 0, .int .i64 0, .int .i64 0, .int .i64 0] 25) (bel_refl w))
  go_enter Try.func6, Try.ntmps6
  go_wp2_with fail
  refine (crewC w (w.heap.size + 1) A n c cs 0 5 _ hC hst (by omega)).mono ?_
  rintro _ w1 ⟨x, rfl, hc1, hg1⟩
  replace hp0 := blk_bel (blk_gro (blk_bel hp0 (bel_alloc (o := .cells #[.slice A n c, .int .i64 0, .int .u64 0] 47) (bel_refl _))) hg1 (by simp)) (bel_alloc (o := .cells #[.int .i64 x.id, .int .i64 x.rate, .int .i64 x.tires, .int .i64 x.shift, .int .i64 x.start] 25) (bel_refl w1))
  have hq0 := heap_alloc_new w1 (.cells #[.int .i64 x.id, .int .i64 x.rate, .int .i64 x.tires, .int .i64 x.shift, .int .i64 x.start] 25)
  have hc2 := hc1.kept (bel_alloc (o := .cells #[.int .i64 x.id, .int .i64 x.rate, .int .i64 x.tires, .int .i64 x.shift, .int .i64 x.start] 25) (bel_refl w1))
  have hpq : w.heap.size + 1 < w1.heap.size := hc1.lt
  clear hg1 hst hc1
  go_wp2_with fail
  obtain ⟨w2, hw2⟩ : ∃ w2, w1.alloc (.cells #[.int .i64 x.id, .int .i64 x.rate, .int .i64 x.tires, .int .i64 x.shift, .int .i64 x.start] 25) = w2 := ⟨_, rfl⟩
  obtain ⟨q, hq⟩ : ∃ q, w1.heap.size = q := ⟨_, rfl⟩
  rw [hw2] at hp0 hq0 hc2 ⊢
  rw [hq] at hq0 hpq ⊢
  clear hw2 hq
  refine wp_region_plan (fun w' => w'.heap[q]? = some (.cells #[.int .i64 x.id, .int .i64 x.rate, .int .i64 x.tires, .int .i64 x.shift, .int .i64 x.start] 25)) (.free 0 (.free 1 (.one 2 (.one 3 (.free 4 .stop))))) (by kernel_rfl) (by kernel_rfl) hq0 ?_
  simp only [Plan.ops, List.getElem?_cons_zero, List.getElem?_cons_succ, Option.getD_some]
  (iterate 2 (refine p_free rfl (by intro w' hw'; obtain ⟨⟨d0, d1, d2, d3, d4⟩, dz⟩ := cells5 hw'; (go_simp; first | done | rfl)) ?_; (try simp only [Act.put, List.setIfInBounds_toArray, List.set_cons_zero, List.set_cons_succ])))
  have hp1 := blk_bel hp0 (bel_drew (bel_refl w2))
  have hq1 := blk_bel hq0 (bel_drew (bel_refl w2))
  have hc3 := hc2.kept (bel_drew (bel_refl w2))
  refine p_call rfl (by (go_simp; first | done | exact ⟨rfl, rfl⟩ | rfl)) ?_
  refine (hour10C w (w.heap.size + 1) A n c cs _ _ hC hc3 (by omega)).mono ?_
  rintro _ w3 ⟨v, rfl, hv, hc4, hg4⟩
  have hq2 := blk_gro hq1 hg4 (by simp; omega)
  have hp2 := blk_gro hp1 hg4 (by simp)
  refine ⟨_, rfl, hq2, ?_⟩
  (try simp only [Act.put, List.setIfInBounds_toArray, List.set_cons_zero, List.set_cons_succ])
  obtain ⟨⟨k0, k1, k2, k3, k4⟩, kz⟩ := cells5 hp2
  refine p_store rfl (by (go_simp; first | done | rfl)) ?_ ?_
  · have hne : q ≠ w.heap.size := by omega
    (repeat' (first | (with_reducible assumption) | (refine (heap_setCell_other _ _ _ _ (by simpa using hne)).trans ?_)))
  · (try simp only [Act.put])
    (iterate 1 (refine p_free rfl (by intro w' hw'; (go_simp; first | done | rfl)) ?_; (try simp only [Act.put, List.setIfInBounds_toArray, List.set_cons_zero, List.set_cons_succ])))
    refine p_stop ?_
    (try simp only [Act.put, List.setIfInBounds_toArray, List.set_cons_zero, List.set_cons_succ])
    go_wp2_with fail
    refine bodyPost_ret (v := .tuple #[.agg #[.int .i64 x.id, .int .i64 x.rate, .int .i64 x.tires, .int .i64 x.shift, .int .i64 x.start], .int .i64 v]) (by simp [results, Try.results6, go_sem, *]) rfl ⟨x, v, rfl, hv, ?_⟩
    have hb := hc4.bel
    (repeat' (first | (with_reducible assumption) | (refine Below.setCell ?_ (by simp) _)))
set_option maxHeartbeats 4000000 in
set_option maxRecDepth 100000 in
theorem drawFor (A : Option Addr) (n c : Nat) (cs : List Int) (w : World) (hC : Code w A n c cs) :
    Calls Try.prog 14 #[.slice A n c] w fun e w' => ∃ (x : Crew) (v : Int), e = .returned (.tuple #[.agg #[.int .i64 x.id, .int .i64 x.rate, .int .i64 x.tires, .int .i64 x.shift, .int .i64 x.start], .int .i64 v]) ∧ (-1 ≤ v ∧ v ≤ 20001) ∧ Below w.heap.size w w' := by
  have hp0 := heap_alloc_new w (.cells #[.int .i64 0, .int .i64 0, .int .i64 0, .int .i64 0, .int .i64 0] 25)
  have hst : Cur w (w.heap.size + 1) A n c 0 ((w.alloc (.cells #[.int .i64 0, .int .i64 0, .int .i64 0, .int .i64 0, .int .i64 0] 25)).alloc (.cells #[.slice A n c, .int .i64 0, .int .u64 0] 47)) := by simpa using code_start (A := A) (n := n) (c := c) (B := 0) (bel_alloc (o := .cells #[.int .i64 0, .int .i64 0, .int .i64 0, .int .i64 0, .int .i64 0] 25) (bel_refl w))
  go_enter Try.func14, Try.ntmps14
  go_wp2_with fail
  refine (crewC w (w.heap.size + 1) A n c cs 0 5 _ hC hst (by omega)).mono ?_
  rintro _ w1 ⟨x, rfl, hc1, hg1⟩
  replace hp0 := blk_bel (blk_gro (blk_bel hp0 (bel_alloc (o := .cells #[.slice A n c, .int .i64 0, .int .u64 0] 47) (bel_refl _))) hg1 (by simp)) (bel_alloc (o := .cells #[.int .i64 x.id, .int .i64 x.rate, .int .i64 x.tires, .int .i64 x.shift, .int .i64 x.start] 25) (bel_refl w1))
  have hq0 := heap_alloc_new w1 (.cells #[.int .i64 x.id, .int .i64 x.rate, .int .i64 x.tires, .int .i64 x.shift, .int .i64 x.start] 25)
  have hc2 := hc1.kept (bel_alloc (o := .cells #[.int .i64 x.id, .int .i64 x.rate, .int .i64 x.tires, .int .i64 x.shift, .int .i64 x.start] 25) (bel_refl w1))
  have hpq : w.heap.size + 1 < w1.heap.size := hc1.lt
  clear hg1 hst hc1
  go_wp2_with fail
  obtain ⟨w2, hw2⟩ : ∃ w2, w1.alloc (.cells #[.int .i64 x.id, .int .i64 x.rate, .int .i64 x.tires, .int .i64 x.shift, .int .i64 x.start] 25) = w2 := ⟨_, rfl⟩
  obtain ⟨q, hq⟩ : ∃ q, w1.heap.size = q := ⟨_, rfl⟩
  rw [hw2] at hp0 hq0 hc2 ⊢
  rw [hq] at hq0 hpq ⊢
  clear hw2 hq
  refine wp_region_plan (fun w' => w'.heap[q]? = some (.cells #[.int .i64 x.id, .int .i64 x.rate, .int .i64 x.tires, .int .i64 x.shift, .int .i64 x.start] 25)) (.free 0 (.free 1 (.one 2 (.one 3 (.free 4 .stop))))) (by kernel_rfl) (by kernel_rfl) hq0 ?_
  simp only [Plan.ops, List.getElem?_cons_zero, List.getElem?_cons_succ, Option.getD_some]
  (iterate 2 (refine p_free rfl (by intro w' hw'; obtain ⟨⟨d0, d1, d2, d3, d4⟩, dz⟩ := cells5 hw'; (go_simp; first | done | rfl)) ?_; (try simp only [Act.put, List.setIfInBounds_toArray, List.set_cons_zero, List.set_cons_succ])))
  have hp1 := blk_bel hp0 (bel_drew (bel_refl w2))
  have hq1 := blk_bel hq0 (bel_drew (bel_refl w2))
  have hc3 := hc2.kept (bel_drew (bel_refl w2))
  refine p_call rfl (by (go_simp; first | done | exact ⟨rfl, rfl⟩ | rfl)) ?_
  refine (metresC w (w.heap.size + 1) A n c cs _ _ hC hc3 (by omega)).mono ?_
  rintro _ w3 ⟨v, rfl, hv, hc4, hg4⟩
  have hq2 := blk_gro hq1 hg4 (by simp; omega)
  have hp2 := blk_gro hp1 hg4 (by simp)
  refine ⟨_, rfl, hq2, ?_⟩
  (try simp only [Act.put, List.setIfInBounds_toArray, List.set_cons_zero, List.set_cons_succ])
  obtain ⟨⟨k0, k1, k2, k3, k4⟩, kz⟩ := cells5 hp2
  refine p_store rfl (by (go_simp; first | done | rfl)) ?_ ?_
  · have hne : q ≠ w.heap.size := by omega
    (repeat' (first | (with_reducible assumption) | (refine (heap_setCell_other _ _ _ _ (by simpa using hne)).trans ?_)))
  · (try simp only [Act.put])
    (iterate 1 (refine p_free rfl (by intro w' hw'; (go_simp; first | done | rfl)) ?_; (try simp only [Act.put, List.setIfInBounds_toArray, List.set_cons_zero, List.set_cons_succ])))
    refine p_stop ?_
    (try simp only [Act.put, List.setIfInBounds_toArray, List.set_cons_zero, List.set_cons_succ])
    go_wp2_with fail
    refine bodyPost_ret (v := .tuple #[.agg #[.int .i64 x.id, .int .i64 x.rate, .int .i64 x.tires, .int .i64 x.shift, .int .i64 x.start], .int .i64 v]) (by simp [results, Try.results14, go_sem, *]) rfl ⟨x, v, rfl, hv, ?_⟩
    have hb := hc4.bel
    (repeat' (first | (with_reducible assumption) | (refine Below.setCell ?_ (by simp) _)))
end Go.Proofs.Ythbjgccldoofgaa
