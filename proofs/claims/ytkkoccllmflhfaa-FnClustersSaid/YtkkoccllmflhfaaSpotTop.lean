/-
  Two hot spots: whether they may be one, the steps between them: of the program and of the reference, walked.
-/
import Derived.Test.YtkkoccllmflhfaaSpotList
namespace Go.Proofs.Ytkkoccllmflhfaa
open Go.RowKit

def spreadR (a b : Hotspot) : Int × Int × Bool := if goodH a && goodH b then (max 0 (max (farI a.x b.x) (farI a.y b.y) - a.err - b.err), max (farI a.x b.x) (farI a.y b.y) + a.err + b.err, true) else (0, 0, false)
def mayR (a b : Hotspot) : Bool × Bool := if goodH a && goodH b then (sameB a b, true) else (false, false)
theorem farI_bd {a b : Int} (h : 0 ≤ a ∧ a ≤ 1000 ∧ 0 ≤ b ∧ b ≤ 1000) : 0 ≤ farI a b ∧ farI a b ≤ 1000 := by
  unfold farI; omega
theorem iv {k : IntKind} {a b : Int} (h : a = b) : Value.int k a = .int k b := by rw [h]
theorem ret3 {a b c d e f : Value} (h : a = d) (h' : b = e) (h'' : c = f) : Ending.returned (.tuple #[a, b, c]) = .returned (.tuple #[d, e, f]) := by rw [h, h', h'']

theorem l7Same (a b : Hotspot) (w : World) (ha : goodH a = true) (hb : goodH b = true) :
    Calls Try.prog 59 #[.agg #[.int .i64 a.id, .int .i64 a.x, .int .i64 a.y, .int .i64 a.err, .int .i64 a.tick, .int .i64 a.heat], .agg #[.int .i64 b.id, .int .i64 b.x, .int .i64 b.y, .int .i64 b.err, .int .i64 b.tick, .int .i64 b.heat]] w fun e w' => e = .returned (.bool (sameB a b)) ∧ Below w.heap.size w w' := by
  have hA := goodH_bd ha
  have hB := goodH_bd hb
  have h1 := farI_bd (a := a.x) (b := b.x) (by omega)
  have h2 := farI_bd (a := a.y) (b := b.y) (by omega)
  have hB2 := bel_refl ((w.alloc (.cells #[.int .i64 a.id, .int .i64 a.x, .int .i64 a.y, .int .i64 a.err, .int .i64 a.tick, .int .i64 a.heat] 49)).alloc (.cells #[.int .i64 b.id, .int .i64 b.x, .int .i64 b.y, .int .i64 b.err, .int .i64 b.tick, .int .i64 b.heat] 49))
  clear ha hb
  go_enter Try.func59, Try.ntmps59
  go_wp2_with fail
  (refine wp_region_bel (by kernel_rfl) (by kernel_rfl) ?_; have hD := bel_cells hB2; (repeat (go_big_quiet_step (((first | (go_at_call 67; exact calls_bel_same (l7Far _ _ _ (by omega))) | (go_at_call 49; exact calls_bel_same (l1Most _ _ _))))))); refine wpQuiet_nil ?_; intro w1 hB1; replace hB2 := bel_trans hB2 hB1; obtain ⟨hC1, hF1⟩ := bcell hB2; clear hD; replace hB1 := hB1)
  go_wp2
  go_ret
  exact ⟨rfl, by (repeat' (first | (with_reducible exact bel_refl _) | (with_reducible assumption) | (with_reducible refine bel_drew ?_) | (with_reducible refine bel_drewN ?_) | (with_reducible refine bel_alloc ?_) | (with_reducible refine bel_set ?_ ?_) | (with_reducible refine bel_trans ?_ (by with_reducible assumption)) | omega | (simp; done) | (simp; omega)))⟩

end Go.Proofs.Ytkkoccllmflhfaa
