/-
  The cursor that draws: numbers out of bytes, walked.
-/
import Derived.Test.YtkkoccllmflhfaaGreatDoorRows
import Derived.Test.YtkkoccllmflhfaaGreatDoorBase
import Derived.Test.YtkkoccllmflhfaaGreatDoorMem
import Derived.OneCell
import Derived.Laws.Bits64b
namespace Go.Proofs.YtkkoccllmflhfaaGreatDoor
open Go.RowKit

/-- The bytes that are drawn from. -/
structure Code (W : World) (A : Option Addr) (n c : Nat) (cs : List Int) : Prop where
  sl : Sl W 1 A n c (cs.map (Value.int .u8))
  bd : ∀ (i : Nat) (x : Int), cs[i]? = some x → 0 ≤ x ∧ x ≤ 255
  len : n ≤ 65536
/-- The cursor's block: at most B bytes have been read. -/
structure Cur (W : World) (g : Nat) (A : Option Addr) (n c B : Nat) (w : World) : Prop where
  bel : Below W.heap.size W w
  lo : W.heap.size ≤ g
  blk : ∃ (i : Nat) (s : Int), w.heap[g]? = some (.cells #[.slice A n c, .int .i64 i, .int .u64 s] 54 (0, 0)) ∧ i ≤ B ∧ 0 ≤ s ∧ s < 18446744073709551616
theorem gro_refl (w : World) (r : Option Nat) : w.grownBy w r := ⟨rfl, rfl, rfl, Nat.le_refl _, fun _ _ _ => rfl⟩
theorem gro_trans {a b c : World} {r : Option Nat} (h : a.grownBy b r) (k : b.grownBy c r) : a.grownBy c r :=
  ⟨k.os.trans h.os, k.tape.trans h.tape, k.output.trans h.output, Nat.le_trans h.size k.size, fun i hi hr => (k.block i (Nat.lt_of_lt_of_le hi h.size) hr).trans (h.block i hi hr)⟩
theorem gro_bel {a b : World} {r : Option Nat} (h : Below a.heap.size a b) : a.grownBy b r := ⟨h.os, h.tape, h.output, h.size, fun i hi _ => h.block i hi⟩
theorem gro_set (w : World) (g o : Nat) (v : Value) : w.grownBy (w.setCell ⟨g, o, none⟩ v) (some g) := grown_set (gro_refl w _) v
section
variable {W w w' : World} {g n c B : Nat} {A : Option Addr}
theorem Cur.lt (h : Cur W g A n c B w) : g < w.heap.size := by
  obtain ⟨i, s, hb, _⟩ := h.blk
  exact lt_of_block hb
theorem Cur.up {B' : Nat} (h : Cur W g A n c B w) (hb : B ≤ B') : Cur W g A n c B' w :=
  ⟨h.bel, h.lo, by obtain ⟨i, s, h1, h2, h3⟩ := h.blk; exact ⟨i, s, h1, by omega, h3⟩⟩
/-- Other blocks are written, or new ones made. -/
theorem Cur.keep {r : Option Nat} (h : Cur W g A n c B w) (hg : w.grownBy w' r) (hr : ∀ k, r = some k → W.heap.size ≤ k ∧ k ≠ g) : Cur W g A n c B w' :=
  ⟨h.bel.grown hg h.bel.size (fun k hk => (hr k hk).1), h.lo, by
    obtain ⟨i, s, h1, h2, h3⟩ := h.blk
    exact ⟨i, s, (hg.block g h.lt (fun e => (hr g e.symm).2 rfl)).trans h1, h2, h3⟩⟩
theorem Cur.kept (h : Cur W g A n c B w) (hb : Below w.heap.size w w') : Cur W g A n c B w' := h.keep (gro_bel (r := none) hb) (fun k hk => by cases hk)
theorem Cur.bels (h : Cur W g A n c B w) : Below W.heap.size W w := h.bel
end
theorem Code.bel {W w : World} {A : Option Addr} {n c : Nat} {cs : List Int} (h : Code W A n c cs) (hb : Below W.heap.size W w) : Code w A n c cs := ⟨h.sl.bel hb, h.bd, h.len⟩
theorem Code.at_ {W : World} {A : Option Addr} {n c : Nat} {cs : List Int} (h : Code W A n c cs) {i : Nat} (hi : i < n) : ∃ b o x, A = some ⟨b, o, none⟩ ∧ b < W.heap.size ∧ W.cell? ⟨b, o + i, none⟩ = some (.int .u8 x) ∧ 0 ≤ x ∧ x ≤ 255 := by
  have hl := h.sl.len
  rw [List.length_map] at hl
  obtain ⟨x, hx⟩ := get_of_lt (xs := cs) (i := i) (by omega)
  obtain ⟨b, o, rfl, hb, hc⟩ := h.sl.at_ (by omega)
  exact ⟨b, o, x, rfl, hb, hc i _ (by simp [hx]), h.bd i x hx⟩
theorem u64_bd (z : Int) : 0 ≤ IntKind.u64.wrap z ∧ IntKind.u64.wrap z < 18446744073709551616 := by
  rw [IntKind.wrap_u64]
  omega
theorem low_bd (S : Int) (h : 0 ≤ S ∧ S < 18446744073709551616) : 0 ≤ wrap64 (bits BinOp.and IntKind.u64 (S / 1099511627776) 255) ∧ wrap64 (bits BinOp.and IntKind.u64 (S / 1099511627776) 255) ≤ 255 := by
  obtain ⟨k, hk⟩ : ∃ k : Nat, S / 1099511627776 = k := ⟨(S / 1099511627776).toNat, by omega⟩
  rw [hk, show (255 : Int) = ((255 : Nat) : Int) from rfl, bits_and_u64_nat k 255 (by omega) (by omega)]
  have h1 : k &&& 255 ≤ 255 := Nat.and_le_right
  unfold wrap64
  omega
set_option maxHeartbeats 2000000 in
set_option maxRecDepth 100000 in
theorem nextC (W : World) (g : Nat) (A : Option Addr) (n c : Nat) (cs : List Int) (B : Nat) (w : World) (hC : Code W A n c cs) (h : Cur W g A n c B w) (hB : B ≤ 1000000) :
    Calls Tryz.prog 61 #[.pointer (some ⟨g, 0, none⟩)] w fun e w' => ∃ x : Int, e = .returned (.int .i64 x) ∧ (0 ≤ x ∧ x ≤ 255) ∧ Cur W g A n c (B + 1) w' ∧ w.grownBy w' (some g) := by
  obtain ⟨i, s, hb, hi, hs⟩ := h.blk
  have hgl := h.lt
  have hlen := hC.len
  have c0 : w.cell? ⟨g, 0, none⟩ = some (.slice A n c) := cell_of_row w g 0 _ _ _ hb
  have c1 : w.cell? ⟨g, 1, none⟩ = some (.int .i64 i) := cell_of_row w g 1 _ _ _ hb
  have c2 : w.cell? ⟨g, 2, none⟩ = some (.int .u64 s) := cell_of_row w g 2 _ _ _ hb
  have fz : ∀ o, w.frozen? ⟨g, o, none⟩ = false := fun o => frozen_of_row w g o _ _ hb
  have hB2 := bel_refl w
  have hHC := hid (hC.bel h.bel)
  have hH := hid h
  have hHb := hid hb
  clear h hb hC
  have hi0 : (0 : Int) ≤ (i : Int) := by omega
  rcases Nat.lt_or_ge i n with hlt | hlt
  · obtain ⟨b, o, x, hA, hbl, cx, hx0, hx1⟩ := hHC.out.at_ hlt
    have hi1 : (i : Int) < (n : Int) := by omega
    subst hA
    go_enter Tryz.func61, Tryz.ntmps61
    go_wp2_with fail
    (refine wp_region_bel (by kernel_rfl) (by kernel_rfl) ?_; have hD := bel_cells hB2; (repeat (go_big_quiet_step ((fail)))); refine wpQuiet_nil ?_; intro w1 hB1; replace hB2 := bel_trans hB2 hB1; obtain ⟨hC1, hF1⟩ := bcell hB2; clear hD; replace hB1 := hB1)
    go_wp2_with fail
    (refine wp_region_bel (by kernel_rfl) (by kernel_rfl) ?_; have hD := bel_cells hB2; (repeat (go_big_quiet_step ((fail)))); refine wpQuiet_nil ?_; intro w1 hB1; replace hB2 := bel_trans hB2 hB1; obtain ⟨hC1, hF1⟩ := bcell hB2; clear hD; replace hB1 := hB1)
    have hb1 := (hB2.block g hgl).trans hHb.out
    go_wp2_with fail
    generalize hS : IntKind.u64.wrap (IntKind.u64.wrap (IntKind.u64.wrap (s * 6364136223846793005) + x) + 917917) = S
    have hSb := hS ▸ u64_bd (IntKind.u64.wrap (IntKind.u64.wrap (s * 6364136223846793005) + x) + 917917)
    clear hS
    have hb2 := heap_setCell_same _ g 2 _ _ (.int .u64 S) (heap_setCell_same _ g 1 _ _ (.int .i64 ((i : Int) + 1)) hb1)
    have hg4 := gro_trans (gro_trans (gro_bel (r := some g) hB2) (gro_set w1 g 1 (.int .i64 ((i : Int) + 1)))) (gro_set _ g 2 (.int .u64 S))
    have hi2 : (i : Int) + 1 ≤ (n : Int) := by omega
    obtain ⟨w4, hw4⟩ : ∃ w4, (w1.setCell ⟨g, 1, none⟩ (.int .i64 ((i : Int) + 1))).setCell ⟨g, 2, none⟩ (.int .u64 S) = w4 := ⟨_, rfl⟩
    rw [hw4] at hb2 hg4 ⊢
    clear hw4 hB1 hb1 hC1 hF1 hB2; have c0 : w4.cell? ⟨g, 0, none⟩ = some (.slice (some ⟨b, o, none⟩) n c) := cell_of_row w4 g 0 _ _ _ hb2; have c1 : w4.cell? ⟨g, 1, none⟩ = some (.int .i64 ((i : Int) + 1)) := cell_of_row w4 g 1 _ _ _ hb2; have c2 : w4.cell? ⟨g, 2, none⟩ = some (.int .u64 S) := cell_of_row w4 g 2 _ _ _ hb2; have hgl4 := lt_of_block hb2; have hB2 := bel_refl w4; have hb2 := hid hb2; go_wp2_with fail; (refine wp_region_bel (by kernel_rfl) (by kernel_rfl) ?_; have hD := bel_cells hB2; (repeat (go_big_quiet_step ((fail)))); refine wpQuiet_nil ?_; intro w1 hB1; replace hB2 := bel_trans hB2 hB1; obtain ⟨hC1, hF1⟩ := bcell hB2; clear hD; replace hB1 := hB1); go_wp2_with fail
    go_ret
    exact ⟨x, rfl, ⟨hx0, hx1⟩, ⟨hH.out.bel.grown (gro_trans hg4 (gro_bel hB2)) hH.out.bel.size (fun k hk => by cases hk; exact hH.out.lo), hH.out.lo, i + 1, S, (hB2.block g hgl4).trans hb2.out, by omega, hSb.1, hSb.2⟩, gro_trans hg4 (gro_bel hB2)⟩
  · have hi1 : ¬ (i : Int) < (n : Int) := by omega
    go_enter Tryz.func61, Tryz.ntmps61
    go_wp2_with fail
    (refine wp_region_bel (by kernel_rfl) (by kernel_rfl) ?_; have hD := bel_cells hB2; (repeat (go_big_quiet_step ((fail)))); refine wpQuiet_nil ?_; intro w1 hB1; replace hB2 := bel_trans hB2 hB1; obtain ⟨hC1, hF1⟩ := bcell hB2; clear hD; replace hB1 := hB1)
    have hb1 := (hB2.block g hgl).trans hHb.out
    go_wp2_with fail
    generalize hS : IntKind.u64.wrap (IntKind.u64.wrap (IntKind.u64.wrap (s * 6364136223846793005)) + 917917) = S
    have hSb := hS ▸ u64_bd (IntKind.u64.wrap (IntKind.u64.wrap (s * 6364136223846793005)) + 917917)
    clear hS
    have hb2 := heap_setCell_same _ g 2 _ _ (.int .u64 S) (heap_setCell_same _ g 1 _ _ (.int .i64 ((i : Int) + 1)) hb1)
    have hg4 := gro_trans (gro_trans (gro_bel (r := some g) hB2) (gro_set w1 g 1 (.int .i64 ((i : Int) + 1)))) (gro_set _ g 2 (.int .u64 S))
    have hi2 : ¬ (i : Int) + 1 ≤ (n : Int) := by omega
    obtain ⟨w4, hw4⟩ : ∃ w4, (w1.setCell ⟨g, 1, none⟩ (.int .i64 ((i : Int) + 1))).setCell ⟨g, 2, none⟩ (.int .u64 S) = w4 := ⟨_, rfl⟩
    rw [hw4] at hb2 hg4 ⊢
    clear hw4 hB1 hb1 hC1 hF1 hB2; have c0 : w4.cell? ⟨g, 0, none⟩ = some (.slice A n c) := cell_of_row w4 g 0 _ _ _ hb2; have c1 : w4.cell? ⟨g, 1, none⟩ = some (.int .i64 ((i : Int) + 1)) := cell_of_row w4 g 1 _ _ _ hb2; have c2 : w4.cell? ⟨g, 2, none⟩ = some (.int .u64 S) := cell_of_row w4 g 2 _ _ _ hb2; have hgl4 := lt_of_block hb2; have hB2 := bel_refl w4; have hb2 := hid hb2; go_wp2_with fail; (refine wp_region_bel (by kernel_rfl) (by kernel_rfl) ?_; have hD := bel_cells hB2; (repeat (go_big_quiet_step ((fail)))); refine wpQuiet_nil ?_; intro w1 hB1; replace hB2 := bel_trans hB2 hB1; obtain ⟨hC1, hF1⟩ := bcell hB2; clear hD; replace hB1 := hB1); go_wp2_with fail
    go_ret
    exact ⟨_, rfl, low_bd S hSb, ⟨hH.out.bel.grown (gro_trans hg4 (gro_bel hB2)) hH.out.bel.size (fun k hk => by cases hk; exact hH.out.lo), hH.out.lo, i + 1, S, (hB2.block g hgl4).trans hb2.out, by omega, hSb.1, hSb.2⟩, gro_trans hg4 (gro_bel hB2)⟩
theorem Sl.gro {w w' : World} {k n c g : Nat} {A : Option Addr} {L : List Value} (h : Sl w k A n c L) (hg : w.grownBy w' (some g)) (hne : ∀ b, A.map (·.block) = some b → b ≠ g) : Sl w' k A n c L :=
  h.keep hg.size fun b o hb hlt => by
    have e := hg.block b hlt (fun h => hne b hb (by cases h; rfl))
    simp only [World.cell?, e]
set_option maxHeartbeats 2000000 in
set_option maxRecDepth 100000 in
theorem pickC (W : World) (g : Nat) (A : Option Addr) (n c : Nat) (cs : List Int) (B : Nat) (m : Int) (w : World) (hC : Code W A n c cs) (h : Cur W g A n c B w) (hB : B ≤ 999990) (hm : m ≤ 1048576) :
    Calls Tryz.prog 50 #[.pointer (some ⟨g, 0, none⟩), .int .i64 m] w fun e w' => ∃ x : Int, e = .returned (.int .i64 x) ∧ (0 ≤ x ∧ (x < m ∨ x = 0)) ∧ Cur W g A n c (B + 2) w' ∧ w.grownBy w' (some g) := by
  by_cases h1 : m ≤ 1
  · go_enter Tryz.func50, Tryz.ntmps50
    go_wp2
    go_ret
    exact ⟨0, rfl, by omega, h.up (by omega), gro_refl _ _⟩
  · by_cases h2 : 200 < m
    · go_enter Tryz.func50, Tryz.ntmps50
      go_wp2_with fail
      refine (nextC W g A n c cs B w hC h (by omega)).mono ?_
      rintro _ w1 ⟨x, rfl, ⟨hx0, hx1⟩, hc1, hg1⟩
      go_wp2_with fail
      refine (nextC W g A n c cs (B + 1) w1 hC hc1 (by omega)).mono ?_
      rintro _ w2 ⟨y, rfl, ⟨hy0, hy1⟩, hc2, hg2⟩
      go_wp2_with fail
      go_ret
      exact ⟨_, rfl, ⟨Int.emod_nonneg _ (by omega), Or.inl (Int.emod_lt_of_pos _ (by omega))⟩, hc2, gro_trans hg1 hg2⟩
    · go_enter Tryz.func50, Tryz.ntmps50
      go_wp2_with fail
      refine (nextC W g A n c cs B w hC h (by omega)).mono ?_
      rintro _ w1 ⟨x, rfl, ⟨hx0, hx1⟩, hc1, hg1⟩
      go_wp2_with fail
      go_ret
      exact ⟨_, rfl, ⟨Int.emod_nonneg _ (by omega), Or.inl (Int.emod_lt_of_pos _ (by omega))⟩, hc1.up (by omega), hg1⟩
set_option maxHeartbeats 2000000 in
theorem oneC (W : World) (g : Nat) (A : Option Addr) (n c : Nat) (cs : List Int) (B : Nat) (m : Int) (w : World) (hC : Code W A n c cs) (h : Cur W g A n c B w) (hB : B ≤ 999990) (hm : m ≤ 1048576) :
    Calls Tryz.prog 31 #[.pointer (some ⟨g, 0, none⟩), .int .i64 m] w fun e w' => ∃ x : Bool, e = .returned (.bool x) ∧ Cur W g A n c (B + 2) w' ∧ w.grownBy w' (some g) := by
  go_enter Tryz.func31, Tryz.ntmps31
  go_wp2_with fail
  refine (pickC W g A n c cs B m w hC h hB hm).mono ?_
  rintro _ w1 ⟨x, rfl, hx, hc1, hg1⟩
  go_wp2_with fail
  go_ret
  exact ⟨_, rfl, hc1, hg1⟩
set_option maxHeartbeats 2000000 in
theorem amongC (W : World) (g : Nat) (A : Option Addr) (n c : Nat) (cs : List Int) (B : Nat) (A2 : Option Addr) (m c2 : Nat) (xs : List Int) (w : World) (hC : Code W A n c cs) (h : Cur W g A n c B w) (hB : B ≤ 999990) (hS : Sl w 1 A2 m c2 (ints xs)) (hm : 0 < m ∧ m ≤ 1048576) (hne : ∀ b, A2.map (·.block) = some b → b ≠ g) :
    Calls Tryz.prog 30 #[.pointer (some ⟨g, 0, none⟩), .slice A2 m c2] w fun e w' => ∃ x : Int, e = .returned (.int .i64 x) ∧ x ∈ xs ∧ Cur W g A n c (B + 2) w' ∧ w.grownBy w' (some g) := by
  go_enter Tryz.func30, Tryz.ntmps30
  go_wp2_with fail
  refine (pickC W g A n c cs B m w hC h hB (by omega)).mono ?_
  rintro _ w1 ⟨x, rfl, ⟨hx0, hx1⟩, hc1, hg1⟩
  obtain ⟨k, rfl⟩ := Int.eq_ofNat_of_zero_le hx0
  have hl := hS.int_len
  obtain ⟨y, hy⟩ : ∃ y, xs[k]? = some y := get_of_lt (by omega)
  have hym := hid (List.mem_of_getElem? hy)
  obtain ⟨b, o, rfl, hb, c0⟩ := (hS.gro hg1 hne).int_at hy
  have hk1 : (k : Int) < (m : Int) := by omega
  clear hy hl hx1
  go_wp2_with fail
  go_ret
  exact ⟨y, rfl, hym.out, hc1, hg1⟩
theorem lit_sl {w : World} {xs : List Int} {T : TypeId} {v : Array Value} {k : Nat} {g : Nat} (hv : v = (ints xs).toArray) (hk : xs.length = k) (hm : k ≤ maxLen) (hg : g = w.heap.size) : Sl (w.alloc (.cells v T)) 1 (some ⟨g, 0, none⟩) k k (ints xs) := by
  subst hv hg
  refine ⟨by rw [ints_len]; omega, Nat.le_refl _, hm, fun _ => ⟨w.heap.size, 0, rfl, by simp, fun j u hu => ?_⟩⟩
  rw [Nat.zero_add, cell_of_row _ w.heap.size j _ T (0, 0) (heap_alloc_new w _)]
  simpa using hu
theorem ne_lit {p g : Nat} (h : g < p) : ∀ b, (some (⟨p, 0, none⟩ : Addr)).map (·.block) = some b → b ≠ g := fun b hb => by
  simp at hb; omega
theorem gro_new {a w : World} {r : Option Nat} {p o : Nat} {v : Value} (h : a.grownBy w r) (hp : a.heap.size ≤ p) : a.grownBy (w.setCell ⟨p, o, none⟩ v) r :=
  ⟨h.os, h.tape, h.output, by simpa [World.setCell] using h.size, fun i hi hr => (Below.heap_setCell w ⟨p, o, none⟩ v i (by simp; omega)).trans (h.block i hi hr)⟩
theorem cur_set {W w : World} {g n c B p o : Nat} {A : Option Addr} {v : Value} (h : Cur W g A n c B w) (hp : W.heap.size ≤ p) (hne : p ≠ g) : Cur W g A n c B (w.setCell ⟨p, o, none⟩ v) :=
  h.keep (gro_set w p o v) fun k hk => by cases hk; exact ⟨hp, hne⟩
theorem blk_bel {w w' : World} {p : Nat} {o : Obj} (h : w.heap[p]? = some o) (hb : Below w.heap.size w w') : w'.heap[p]? = some o := (hb.block p (lt_of_block h)).trans h
theorem blk_gro {w w' : World} {p : Nat} {o : Obj} {r : Option Nat} (h : w.heap[p]? = some o) (hg : w.grownBy w' r) (hne : some p ≠ r) : w'.heap[p]? = some o := (hg.block p (lt_of_block h) hne).trans h
theorem cells5 {w : World} {p : Nat} {a b c d e : Value} {T : TypeId} (h : w.heap[p]? = some (.cells #[a, b, c, d, e] T (0, 0))) : (w.cell? ⟨p, 0, none⟩ = some a ∧ w.cell? ⟨p, 1, none⟩ = some b ∧ w.cell? ⟨p, 2, none⟩ = some c ∧ w.cell? ⟨p, 3, none⟩ = some d ∧ w.cell? ⟨p, 4, none⟩ = some e) ∧ ∀ o, w.frozen? ⟨p, o, none⟩ = false :=
  ⟨⟨cell_of_row w p 0 _ _ _ h, cell_of_row w p 1 _ _ _ h, cell_of_row w p 2 _ _ _ h, cell_of_row w p 3 _ _ _ h, cell_of_row w p 4 _ _ _ h⟩, fun o => frozen_of_row w p o _ _ h⟩
theorem gro_push {a w w' : World} {r : Option Nat} {v : Value} {base : Nat} {e : TypeId} {k n : Nat} {L : List Value} (h : a.grownBy w r) (hg : w.grownBy w' v.ownBlock) (ho : w.ownsRow base e k v n L) (hb : a.heap.size ≤ base) : a.grownBy w' r :=
  ⟨hg.os.trans h.os, hg.tape.trans h.tape, hg.output.trans h.output, Nat.le_trans h.size hg.size, fun i hi hr => (hg.block i (Nat.lt_of_lt_of_le hi h.size) (fun e1 => by have := (ho.lt i e1.symm).1; omega)).trans (h.block i hi hr)⟩
theorem cur_push {W w w' : World} {g n c B : Nat} {A : Option Addr} {v : Value} {base : Nat} {e : TypeId} {k m : Nat} {L : List Value} (h : Cur W g A n c B w) (hg : w.grownBy w' v.ownBlock) (ho : w.ownsRow base e k v m L) (hb : g < base) : Cur W g A n c B w' :=
  h.keep hg fun i hi => by have := (ho.lt i hi).1; have := h.lo; omega
theorem own_gro {w w' : World} {g base : Nat} {v : Value} {e : TypeId} {k m : Nat} {L : List Value} (h : w.ownsRow base e k v m L) (hg : w.grownBy w' (some g)) (hb : g < base) : w'.ownsRow base e k v m L :=
  h.kept hg (Or.inr fun e1 => by have := (h.lt g e1).1; omega)
end Go.Proofs.YtkkoccllmflhfaaGreatDoor
