/-
  The small functions on numbers, walked: bounds, the smaller and the greater of two.
-/
import Derived.Test.YtlhgamceoolpdaaRows
import Derived.Test.YtlhgamceoolpdaaBase
namespace Go.Proofs.Ytlhgamceoolpdaa
open Go.RowKit

theorem isIn (n lo hi : Int) (w : World) :
    Calls Try.prog 12 #[.int .i64 n, .int .i64 lo, .int .i64 hi] w fun e w' => e = .returned (.bool (inB n lo hi)) ∧ w = w' := by
  go_enter Try.func12, Try.ntmps12
  go_wp2
  all_goals (go_ret; refine ⟨?_, rfl⟩; simp [inB, *]; try omega)

theorem l1In (n lo hi : Int) (w : World) :
    Calls Try.prog 19 #[.int .i64 n, .int .i64 lo, .int .i64 hi] w fun e w' => e = .returned (.bool (inB n lo hi)) ∧ w = w' := by
  go_enter Try.func19, Try.ntmps19
  go_wp2
  all_goals (go_ret; refine ⟨?_, rfl⟩; simp [inB, *]; try omega)

end Go.Proofs.Ytlhgamceoolpdaa
