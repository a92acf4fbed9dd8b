/-
  The bounds of the places that are possible for some hot spots; whether two may be one, and where: of the program and of the reference, walked.
-/
import Derived.Test.YtkkoccllmflhfaaGreatDoorSpotTop
import Derived.Test.YtkkoccllmflhfaaGreatDoorLate
import Derived.StillTailTactics
namespace Go.Proofs.YtkkoccllmflhfaaGreatDoor
open Go.RowKit

structure Box where
  a : Int
  b : Int
  c : Int
  d : Int
def Box.list (q : Box) : List Int := [q.a, q.b, q.c, q.d]
def boxStep (q : Box) (x : Hotspot) : Box := ⟨max q.a (x.x - x.err), min q.b (x.x + x.err), max q.c (x.y - x.err), min q.d (x.y + x.err)⟩
def boxQ (xs : List Hotspot) : Box := xs.foldl boxStep ⟨-100, 2000, -100, 2000⟩
theorem box_next {xs : List Hotspot} {i : Nat} {x : Hotspot} (hx : xs[i]? = some x) : boxQ (xs.take (i + 1)) = boxStep (boxQ (xs.take i)) x := by
  rw [List.take_add_one, hx]
  simp [boxQ]
theorem wp_gen {c : Code} {P : Program} {Q : Exit → Act → World → Prop} {a : Act} {X : World} (h : ∀ W1, X = W1 → c.wp P Q a W1) : c.wp P Q a X := h X rfl
set_option maxHeartbeats 2000000 in
theorem boxI (A : Option Addr) (n c : Nat) (xs : List Hotspot) (w : World) (hS : Sl w 6 A n c (xs.flatMap Hotspot.row)) (hn : n ≤ 10) (ha : allH xs) :
    Calls Tryz.prog 37 #[.slice A n c] w fun e w' => ∃ g, e = .returned (.slice (some ⟨g, 0, none⟩) 4 4) ∧ Own w.heap.size w'.heap.size w' 3 1 (some ⟨g, 0, none⟩) 4 4 (ints (boxQ xs).list) ∧ Below w.heap.size w w' := by
  have hlh := hid (hS.xs_len Hotspot.row_len (by omega))
  have hlit := World.ownsRow_lit (base := w.heap.size) (e := 3) (size := 1) w #[.int .i64 (-100), .int .i64 2000, .int .i64 (-100), .int .i64 2000] 4 (Nat.le_refl _) (by simp [maxLen]) rfl
  go_enter Tryz.func37, Tryz.ntmps37
  go_wp2_with fail
  go_loopw [9] (fun v wr => ∃ i : Nat, i ≤ n ∧ v = .int .i64 i ∧ wr.ownsRow w.heap.size 3 1 (.slice (some ⟨w.heap.size, 0, none⟩) 4 4) 4 (ints (boxQ (xs.take i)).list) ∧ Below w.heap.size w wr) (fun v _ => n - (intOf v).toNat)
  case atStart => exact ⟨0, by omega, rfl, hlit, by (repeat' (first | (with_reducible exact bel_refl _) | (with_reducible assumption) | (with_reducible refine bel_drew ?_) | (with_reducible refine bel_drewN ?_) | (with_reducible refine bel_alloc ?_) | (with_reducible refine bel_set ?_ ?_) | (with_reducible refine bel_trans ?_ (by with_reducible assumption)) | omega | (simp; done) | (simp; omega)))⟩
  case round =>
    obtain ⟨i, hi', rfl, hown, hB⟩ := hrel
    by_cases hlt : i < n
    · obtain ⟨x, hx⟩ : ∃ x, xs[i]? = some x := get_of_lt (by rw [hlh.out]; exact hlt)
      obtain ⟨b, o, rfl, hb, c0, c1, c2, c3, c4, c5⟩ := (hS.bel hB).hotspot hx
      have hgb := goodH_bd (ha i x hx)
      have hN := hid (box_next hx)
      clear hx
      obtain ⟨q, hq⟩ : ∃ q, boxQ (xs.take i) = q := ⟨_, rfl⟩
      rw [hq] at hown hN
      clear hq
      have hBr : Below wr.heap.size wr (wr.alloc (.cells #[.int .i64 x.id, .int .i64 x.x, .int .i64 x.y, .int .i64 x.err, .int .i64 x.tick, .int .i64 x.heat] 25)) := bel_alloc (bel_refl wr)
      have hO1 := own_bel hown hBr
      have f0 := hO1.cellAt 0 (by omega)
      have f1 := hO1.cellAt 1 (by omega)
      have f2 := hO1.cellAt 2 (by omega)
      have f3 := hO1.cellAt 3 (by omega)
      have e0 := hown.cellAt 0 (by omega)
      have e1 := hown.cellAt 1 (by omega)
      have e2 := hown.cellAt 2 (by omega)
      have e3 := hown.cellAt 3 (by omega)
      simp only [Box.list, ints, List.map_cons, List.map_nil, List.getElem?_cons_succ, List.getElem?_cons_zero] at f0 f1 f2 f3 e0 e1 e2 e3
      have z0 := own_fz hO1 0
      have z1 := own_fz hO1 1
      have z2 := own_fz hO1 2
      have z3 := own_fz hO1 3
      have y0 := own_fz hown 0
      have y1 := own_fz hown 1
      have y2 := own_fz hown 2
      have y3 := own_fz hown 3
      have hgs : w.heap.size < wr.heap.size := (hown.lt _ rfl).2
      have k1 : ((wr.alloc (.cells #[.int .i64 x.id, .int .i64 x.x, .int .i64 x.y, .int .i64 x.err, .int .i64 x.tick, .int .i64 x.heat] 25))).cell? ⟨wr.heap.size, 1, none⟩ = some (.int .i64 x.x) := by rw [cell_of_row _ _ 1 _ _ (0, 0) (heap_alloc_new wr _)]; rfl
      have k2 : ((wr.alloc (.cells #[.int .i64 x.id, .int .i64 x.x, .int .i64 x.y, .int .i64 x.err, .int .i64 x.tick, .int .i64 x.heat] 25))).cell? ⟨wr.heap.size, 2, none⟩ = some (.int .i64 x.y) := by rw [cell_of_row _ _ 2 _ _ (0, 0) (heap_alloc_new wr _)]; rfl
      have k3 : ((wr.alloc (.cells #[.int .i64 x.id, .int .i64 x.x, .int .i64 x.y, .int .i64 x.err, .int .i64 x.tick, .int .i64 x.heat] 25))).cell? ⟨wr.heap.size, 3, none⟩ = some (.int .i64 x.err) := by rw [cell_of_row _ _ 3 _ _ (0, 0) (heap_alloc_new wr _)]; rfl
      have v1 : IntKind.i64.wrap (x.x - x.err) = x.x - x.err := IntWalk.i64_in _ (by omega)
      have v2 : IntKind.i64.wrap (x.x + x.err) = x.x + x.err := IntWalk.i64_in _ (by omega)
      have v3 : IntKind.i64.wrap (x.y - x.err) = x.y - x.err := IntWalk.i64_in _ (by omega)
      have v4 : IntKind.i64.wrap (x.y + x.err) = x.y + x.err := IntWalk.i64_in _ (by omega)
      have hne : ¬ wr.heap.size = w.heap.size := by omega
      have hne2 : ¬ w.heap.size = wr.heap.size := by omega
      go_wp2_with fail
      have hsz : wr.heap.size ≤ ((wr.alloc (.cells #[.int .i64 x.id, .int .i64 x.x, .int .i64 x.y, .int .i64 x.err, .int .i64 x.tick, .int .i64 x.heat] 25))).heap.size := hBr.size
      generalize (wr.alloc (.cells #[.int .i64 x.id, .int .i64 x.x, .int .i64 x.y, .int .i64 x.err, .int .i64 x.tick, .int .i64 x.heat] 25)) = W at hBr hO1 f0 f1 f2 f3 z0 z1 z2 z3 k1 k2 k3 hsz ⊢
      refine wp_region_late (fun ww => ww.cell? ⟨wr.heap.size, 1, none⟩ = some (.int .i64 x.x) ∧ ww.cell? ⟨wr.heap.size, 2, none⟩ = some (.int .i64 x.y) ∧ ww.cell? ⟨wr.heap.size, 3, none⟩ = some (.int .i64 x.err)) [21, 23] (by kernel_rfl) (by kernel_rfl) (by kernel_rfl) (by refine ⟨?_, ?_, ?_⟩ <;> first | assumption | go_keep) ?_
      iterate 21 ((first | (refine late_step (by kernel_rfl) rfl (by refine ⟨?_, ?_, ?_⟩ <;> first | assumption | go_keep) (fun w' hw' => by (obtain ⟨s1, s2, s3⟩ := hw'; go_simp; first | done | rfl)) ?_) | (refine late_here (by kernel_rfl) rfl (by kernel_rfl) (by go_simp; first | done | rfl) ?_)); (try simp only [Act.put]))
      (refine late_store (by kernel_rfl) rfl (by go_simp; first | done | rfl) (by refine ⟨?_, ?_, ?_⟩ <;> first | assumption | go_keep) ?_); (try simp only [Act.put])
      (first | (refine late_step (by kernel_rfl) rfl (by refine ⟨?_, ?_, ?_⟩ <;> first | assumption | go_keep) (fun w' hw' => by (obtain ⟨s1, s2, s3⟩ := hw'; go_simp; first | done | rfl)) ?_) | (refine late_here (by kernel_rfl) rfl (by kernel_rfl) (by go_simp; first | done | rfl) ?_)); (try simp only [Act.put])
      (refine late_store (by kernel_rfl) rfl (by go_simp; first | done | rfl) (by refine ⟨?_, ?_, ?_⟩ <;> first | assumption | go_keep) ?_); (try simp only [Act.put])
      refine late_nil ?_
      go_wp2_with fail
      refine wp_gen ?_
      intro W1 hW1
      have o0 := (hO1.stored 0 (.int .i64 (max q.a (x.x - x.err)))).1
      have o1 := (o0.stored 1 (.int .i64 (min q.b (x.x + x.err)))).1
      have hBW : Below w.heap.size w W := bel_trans hB hBr
      have hB1 : Below w.heap.size w W1 := by rw [← hW1]; (repeat' (first | (with_reducible exact bel_refl _) | (with_reducible assumption) | (with_reducible refine bel_drew ?_) | (with_reducible refine bel_drewN ?_) | (with_reducible refine bel_alloc ?_) | (with_reducible refine bel_set ?_ ?_) | (with_reducible refine bel_trans ?_ (by with_reducible assumption)) | omega | (simp; done) | (simp; omega)))
      have hO2 : W1.ownsRow w.heap.size 3 1 (.slice (some ⟨w.heap.size, 0, none⟩) 4 4) 4 (ints [max q.a (x.x - x.err), min q.b (x.x + x.err), q.c, q.d]) := by rw [← hW1]; exact own_bel o1 (bel_drew (bel_refl _))
      have j1 : W1.cell? ⟨wr.heap.size, 1, none⟩ = some (.int .i64 x.x) := by rw [← hW1]; clear hW1; go_keep
      have j2 : W1.cell? ⟨wr.heap.size, 2, none⟩ = some (.int .i64 x.y) := by rw [← hW1]; clear hW1; go_keep
      have j3 : W1.cell? ⟨wr.heap.size, 3, none⟩ = some (.int .i64 x.err) := by rw [← hW1]; clear hW1; go_keep
      clear hW1 o0 o1 hO1 f0 f1 f2 f3 z0 z1 z2 z3 e0 e1 e2 e3 y0 y1 y2 y3 k1 k2 k3 hBr hsz hBW c0 c1 c2 c3 c4 c5
      have f2 := hO2.cellAt 2 (by omega)
      have f3 := hO2.cellAt 3 (by omega)
      simp only [ints, List.map_cons, List.map_nil, List.getElem?_cons_succ, List.getElem?_cons_zero] at f2 f3
      have z2 := own_fz hO2 2
      have z3 := own_fz hO2 3
      refine wp_region_late (fun ww => ww.cell? ⟨wr.heap.size, 1, none⟩ = some (.int .i64 x.x) ∧ ww.cell? ⟨wr.heap.size, 2, none⟩ = some (.int .i64 x.y) ∧ ww.cell? ⟨wr.heap.size, 3, none⟩ = some (.int .i64 x.err)) [21, 23] (by kernel_rfl) (by kernel_rfl) (by kernel_rfl) (by refine ⟨?_, ?_, ?_⟩ <;> first | assumption | go_keep) ?_
      iterate 21 ((first | (refine late_step (by kernel_rfl) rfl (by refine ⟨?_, ?_, ?_⟩ <;> first | assumption | go_keep) (fun w' hw' => by (obtain ⟨s1, s2, s3⟩ := hw'; go_simp; first | done | rfl)) ?_) | (refine late_here (by kernel_rfl) rfl (by kernel_rfl) (by go_simp; first | done | rfl) ?_)); (try simp only [Act.put]))
      (refine late_store (by kernel_rfl) rfl (by go_simp; first | done | rfl) (by refine ⟨?_, ?_, ?_⟩ <;> first | assumption | go_keep) ?_); (try simp only [Act.put])
      (first | (refine late_step (by kernel_rfl) rfl (by refine ⟨?_, ?_, ?_⟩ <;> first | assumption | go_keep) (fun w' hw' => by (obtain ⟨s1, s2, s3⟩ := hw'; go_simp; first | done | rfl)) ?_) | (refine late_here (by kernel_rfl) rfl (by kernel_rfl) (by go_simp; first | done | rfl) ?_)); (try simp only [Act.put])
      (refine late_store (by kernel_rfl) rfl (by go_simp; first | done | rfl) (by refine ⟨?_, ?_, ?_⟩ <;> first | assumption | go_keep) ?_); (try simp only [Act.put])
      refine late_nil ?_
      go_wp2
      have o2 := (hO2.stored 2 (.int .i64 (max q.c (x.y - x.err)))).1
      have o3 := (o2.stored 3 (.int .i64 (min q.d (x.y + x.err)))).1
      go_roundw
      case rel =>
        refine ⟨i + 1, by omega, by go_num, ?_, by (repeat' (first | (with_reducible exact bel_refl _) | (with_reducible assumption) | (with_reducible refine bel_drew ?_) | (with_reducible refine bel_drewN ?_) | (with_reducible refine bel_alloc ?_) | (with_reducible refine bel_set ?_ ?_) | (with_reducible refine bel_trans ?_ (by with_reducible assumption)) | omega | (simp; done) | (simp; omega)))⟩
        rw [hN.out]
        exact own_bel o3 (bel_drew (bel_refl _))
      case measure => simp [intOf]; omega
    · go_wp2
      go_ret
      have e : i = n := by omega
      subst e
      rw [List.take_of_length_le (by rw [hlh.out]; omega)] at hown
      exact ⟨_, rfl, Own.mk_ hown, hB⟩

theorem two_sl {w : World} {a b : Hotspot} {g : Nat} (hg : g = w.heap.size) : Sl (w.alloc (.cells #[.int .i64 a.id, .int .i64 a.x, .int .i64 a.y, .int .i64 a.err, .int .i64 a.tick, .int .i64 a.heat, .int .i64 b.id, .int .i64 b.x, .int .i64 b.y, .int .i64 b.err, .int .i64 b.tick, .int .i64 b.heat] 25)) 6 (some ⟨g, 0, none⟩) 2 2 ([a, b].flatMap Hotspot.row) :=
  hg ▸ ⟨by simp [Hotspot.row], by omega, by simp [maxLen], fun _ => ⟨_, _, rfl, by simp, fun j v hv => by
    rw [Nat.zero_add, cell_of_row _ _ j _ _ (0, 0) (heap_alloc_new w _)]
    simpa [Hotspot.row] using hv⟩⟩
theorem one_slH {w : World} {a : Hotspot} {g : Nat} (hg : g = w.heap.size) : Sl (w.alloc (.cells #[.int .i64 a.id, .int .i64 a.x, .int .i64 a.y, .int .i64 a.err, .int .i64 a.tick, .int .i64 a.heat] 25)) 6 (some ⟨g, 0, none⟩) 1 1 ([a].flatMap Hotspot.row) :=
  hg ▸ ⟨by simp [Hotspot.row], by omega, by simp [maxLen], fun _ => ⟨_, _, rfl, by simp, fun j v hv => by
    rw [Nat.zero_add, cell_of_row _ _ j _ _ (0, 0) (heap_alloc_new w _)]
    simpa [Hotspot.row] using hv⟩⟩
theorem all_two {a b : Hotspot} (ha : goodH a = true) (hb : goodH b = true) : allH [a, b] := fun i x hx => by
  rcases i with _ | _ | i
  · simp only [List.getElem?_cons_zero, Option.some.injEq] at hx
    rw [← hx]; exact ha
  · simp only [List.getElem?_cons_succ, List.getElem?_cons_zero, Option.some.injEq] at hx
    rw [← hx]; exact hb
  · simp at hx
theorem all_one {a : Hotspot} (ha : goodH a = true) : allH [a] := fun i x hx => by
  rcases i with _ | i
  · simp only [List.getElem?_cons_zero, Option.some.injEq] at hx
    rw [← hx]; exact ha
  · simp at hx
def bothQ (a b : Hotspot) : Box := ⟨max (a.x - a.err) (b.x - b.err), min (a.x + a.err) (b.x + b.err), max (a.y - a.err) (b.y - b.err), min (a.y + a.err) (b.y + b.err)⟩
theorem both_box {a b : Hotspot} (ha : goodH a = true) (hb : goodH b = true) : boxQ [a, b] = bothQ a b := by
  have h1 := goodH_bd ha
  have h2 := goodH_bd hb
  have e : boxQ [a, b] = ⟨max (max (-100) (a.x - a.err)) (b.x - b.err), min (min 2000 (a.x + a.err)) (b.x + b.err), max (max (-100) (a.y - a.err)) (b.y - b.err), min (min 2000 (a.y + a.err)) (b.y + b.err)⟩ := rfl
  rw [e]
  simp only [bothQ, Box.mk.injEq]
  refine ⟨?_, ?_, ?_, ?_⟩
  · omega
  · omega
  · omega
  · omega
theorem same_both {a b : Hotspot} (ha : goodH a = true) (hb : goodH b = true) : sameB a b = (decide ((bothQ a b).a ≤ (bothQ a b).b) && decide ((bothQ a b).c ≤ (bothQ a b).d)) := by
  have h1 := goodH_bd ha
  have h2 := goodH_bd hb
  rw [Bool.eq_iff_iff]
  simp only [sameB, bothQ, farI, Bool.and_eq_true]
  constructor
  · intro h
    replace h := of_decide_eq_true h
    exact ⟨decide_eq_true (by omega), decide_eq_true (by omega)⟩
  · rintro ⟨h, h'⟩
    replace h := of_decide_eq_true h
    replace h' := of_decide_eq_true h'
    exact decide_eq_true (by omega)
end Go.Proofs.YtkkoccllmflhfaaGreatDoor
