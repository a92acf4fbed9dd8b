/-
  The small functions on numbers, walked: bounds, the smaller and the greater of two.
-/
import Derived.Test.YtkkoccllmflhfaaDoorRows
import Derived.Test.YtkkoccllmflhfaaDoorBase
namespace Go.Proofs.YtkkoccllmflhfaaDoor
open Go.RowKit

theorem isIn (n lo hi : Int) (w : World) :
    Calls Tryd.prog 24 #[.int .i64 n, .int .i64 lo, .int .i64 hi] w fun e w' => e = .returned (.bool (inB n lo hi)) ∧ w = w' := by
  go_enter Tryd.func24, Tryd.ntmps24
  go_wp2
  all_goals (go_ret; refine ⟨?_, rfl⟩; simp [inB, *]; try omega)

theorem l1In (n lo hi : Int) (w : World) :
    Calls Tryd.prog 20 #[.int .i64 n, .int .i64 lo, .int .i64 hi] w fun e w' => e = .returned (.bool (inB n lo hi)) ∧ w = w' := by
  go_enter Tryd.func20, Tryd.ntmps20
  go_wp2
  all_goals (go_ret; refine ⟨?_, rfl⟩; simp [inB, *]; try omega)

end Go.Proofs.YtkkoccllmflhfaaDoor
