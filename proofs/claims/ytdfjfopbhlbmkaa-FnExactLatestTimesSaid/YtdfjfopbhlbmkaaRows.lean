/-
  No cell of these rows narrows 'for every input' (looked for: loops, veiled, ifaces, maps, wideKeys, modest, calm, conditions, laid).
  DERIVED. THE GIVEN ROWS OF THIS SEAT. 8 by the template 'for every input the law returns true; each argument reads behind the call as it read before'; 0 by the template 'total and deterministic' (their statements: YtdfjfopbhlbmkaaTotals.lean).
  GIVEN WITH THE SEED: the statements are not yours to turn. If you find one false, say at which input.
  Laid BY PROGRAM, IN A SANDBOX (cutbox-rows.mjs): the forced cells as the released guide's own fill.sh prints them over the translation 7f5ef22bbd7ec9ba… (all of the seat's roots in one cut). By AI agents, Wed Nov 11 2026. No macro, syntax, notation, axiom, sorry.
-/
import Derived.Test.YtdfjfopbhlbmkaaChecked
import GoSem.Claim
import GoSem.ClaimJoined
import GoSem.ClaimMapViews
import Derived.JoinedTies
import Derived.KernelRfl
namespace Go.Proofs.Ytdfjfopbhlbmkaa
/- THE CELL 'sum', in the pinned program and in every row, IS THE sha256 OF THE DUMP (.gsa) THAT YtdfjfopbhlbmkaaProg.lean LOADS. Nothing in Lean hashes anything: it is a label: what it is worth is what the hold of that sum in a sandbox is worth. -/
noncomputable def Try.pinned : Pinned := { name := "ytdfjfopbhlbmkaa", sum := "7f5ef22bbd7ec9bac771128399028ea9fb30ae228fc844b9d691110820b4792a", checked := Try.checked }
namespace Rows
def none {H : Type} : Left H := { results := [], args := [] }

/-- 'laws.FnExactWorstScenario': WHATEVER THE INPUT: true; the input reads as it did. -/
def fnExactWorstScenarioSpec : ChangeSpec := { name := "fnExactWorstScenario", fn := fun _ => fun
  | [d1, d2, d3, d4, d5] => { results := [.lit (.bool true)], args := [d1, d2, d3, d4, d5] }
  | _ => none }
def fnExactWorstScenarioRow : OpenClaim := { program := "ytdfjfopbhlbmkaa", sum := "7f5ef22bbd7ec9bac771128399028ea9fb30ae228fc844b9d691110820b4792a", func := "loop.example/g00917/laws.FnExactWorstScenario", spec := "fnExactWorstScenario", unfollowed := true, recurses := true, apart := false }
def FnExactWorstScenarioSaid : Prop := fnExactWorstScenarioRow.holds Try.pinned (OpenSpec.ofChange fnExactWorstScenarioSpec)

/-- ITS FALSE NEIGHBOUR: 'it returns false'. Refute it at one input. -/
def fnExactWorstScenarioWrong : ChangeSpec := { name := "fnExactWorstScenario", fn := fun _ => fun
  | [d1, d2, d3, d4, d5] => { results := [.lit (.bool false)], args := [d1, d2, d3, d4, d5] }
  | _ => none }
def FnExactWorstScenarioWrongFalsely : Prop := fnExactWorstScenarioRow.holds Try.pinned (OpenSpec.ofChange fnExactWorstScenarioWrong)

/-- 'laws.FnExactMeanBurned': WHATEVER THE INPUT: true; the input reads as it did. -/
def fnExactMeanBurnedSpec : ChangeSpec := { name := "fnExactMeanBurned", fn := fun _ => fun
  | [d1, d2, d3, d4, d5] => { results := [.lit (.bool true)], args := [d1, d2, d3, d4, d5] }
  | _ => none }
def fnExactMeanBurnedRow : OpenClaim := { program := "ytdfjfopbhlbmkaa", sum := "7f5ef22bbd7ec9bac771128399028ea9fb30ae228fc844b9d691110820b4792a", func := "loop.example/g00917/laws.FnExactMeanBurned", spec := "fnExactMeanBurned", unfollowed := true, recurses := true, apart := false }
def FnExactMeanBurnedSaid : Prop := fnExactMeanBurnedRow.holds Try.pinned (OpenSpec.ofChange fnExactMeanBurnedSpec)

/-- ITS FALSE NEIGHBOUR: 'it returns false'. Refute it at one input. -/
def fnExactMeanBurnedWrong : ChangeSpec := { name := "fnExactMeanBurned", fn := fun _ => fun
  | [d1, d2, d3, d4, d5] => { results := [.lit (.bool false)], args := [d1, d2, d3, d4, d5] }
  | _ => none }
def FnExactMeanBurnedWrongFalsely : Prop := fnExactMeanBurnedRow.holds Try.pinned (OpenSpec.ofChange fnExactMeanBurnedWrong)

/-- 'laws.FnExactChanceAbove': WHATEVER THE INPUT: true; the input reads as it did. -/
def fnExactChanceAboveSpec : ChangeSpec := { name := "fnExactChanceAbove", fn := fun _ => fun
  | [d1, d2, d3, d4, d5, d6] => { results := [.lit (.bool true)], args := [d1, d2, d3, d4, d5, d6] }
  | _ => none }
def fnExactChanceAboveRow : OpenClaim := { program := "ytdfjfopbhlbmkaa", sum := "7f5ef22bbd7ec9bac771128399028ea9fb30ae228fc844b9d691110820b4792a", func := "loop.example/g00917/laws.FnExactChanceAbove", spec := "fnExactChanceAbove", unfollowed := true, recurses := true, apart := false }
def FnExactChanceAboveSaid : Prop := fnExactChanceAboveRow.holds Try.pinned (OpenSpec.ofChange fnExactChanceAboveSpec)

/-- ITS FALSE NEIGHBOUR: 'it returns false'. Refute it at one input. -/
def fnExactChanceAboveWrong : ChangeSpec := { name := "fnExactChanceAbove", fn := fun _ => fun
  | [d1, d2, d3, d4, d5, d6] => { results := [.lit (.bool false)], args := [d1, d2, d3, d4, d5, d6] }
  | _ => none }
def FnExactChanceAboveWrongFalsely : Prop := fnExactChanceAboveRow.holds Try.pinned (OpenSpec.ofChange fnExactChanceAboveWrong)

/-- 'laws.FnExactEarliestTimes': WHATEVER THE INPUT: true; the input reads as it did. -/
def fnExactEarliestTimesSpec : ChangeSpec := { name := "fnExactEarliestTimes", fn := fun _ => fun
  | [d1, d2, d3, d4] => { results := [.lit (.bool true)], args := [d1, d2, d3, d4] }
  | _ => none }
def fnExactEarliestTimesRow : OpenClaim := { program := "ytdfjfopbhlbmkaa", sum := "7f5ef22bbd7ec9bac771128399028ea9fb30ae228fc844b9d691110820b4792a", func := "loop.example/g00917/laws.FnExactEarliestTimes", spec := "fnExactEarliestTimes", unfollowed := true, recurses := true, apart := false }
def FnExactEarliestTimesSaid : Prop := fnExactEarliestTimesRow.holds Try.pinned (OpenSpec.ofChange fnExactEarliestTimesSpec)

/-- ITS FALSE NEIGHBOUR: 'it returns false'. Refute it at one input. -/
def fnExactEarliestTimesWrong : ChangeSpec := { name := "fnExactEarliestTimes", fn := fun _ => fun
  | [d1, d2, d3, d4] => { results := [.lit (.bool false)], args := [d1, d2, d3, d4] }
  | _ => none }
def FnExactEarliestTimesWrongFalsely : Prop := fnExactEarliestTimesRow.holds Try.pinned (OpenSpec.ofChange fnExactEarliestTimesWrong)

/-- 'laws.FnExactLatestTimes': WHATEVER THE INPUT: true; the input reads as it did. -/
def fnExactLatestTimesSpec : ChangeSpec := { name := "fnExactLatestTimes", fn := fun _ => fun
  | [d1, d2, d3, d4] => { results := [.lit (.bool true)], args := [d1, d2, d3, d4] }
  | _ => none }
def fnExactLatestTimesRow : OpenClaim := { program := "ytdfjfopbhlbmkaa", sum := "7f5ef22bbd7ec9bac771128399028ea9fb30ae228fc844b9d691110820b4792a", func := "loop.example/g00917/laws.FnExactLatestTimes", spec := "fnExactLatestTimes", unfollowed := true, recurses := true, apart := false }
def FnExactLatestTimesSaid : Prop := fnExactLatestTimesRow.holds Try.pinned (OpenSpec.ofChange fnExactLatestTimesSpec)

/-- ITS FALSE NEIGHBOUR: 'it returns false'. Refute it at one input. -/
def fnExactLatestTimesWrong : ChangeSpec := { name := "fnExactLatestTimes", fn := fun _ => fun
  | [d1, d2, d3, d4] => { results := [.lit (.bool false)], args := [d1, d2, d3, d4] }
  | _ => none }
def FnExactLatestTimesWrongFalsely : Prop := fnExactLatestTimesRow.holds Try.pinned (OpenSpec.ofChange fnExactLatestTimesWrong)

/-- 'laws.FnExactBurnChance': WHATEVER THE INPUT: true; the input reads as it did. -/
def fnExactBurnChanceSpec : ChangeSpec := { name := "fnExactBurnChance", fn := fun _ => fun
  | [d1, d2, d3, d4, d5, d6] => { results := [.lit (.bool true)], args := [d1, d2, d3, d4, d5, d6] }
  | _ => none }
def fnExactBurnChanceRow : OpenClaim := { program := "ytdfjfopbhlbmkaa", sum := "7f5ef22bbd7ec9bac771128399028ea9fb30ae228fc844b9d691110820b4792a", func := "loop.example/g00917/laws.FnExactBurnChance", spec := "fnExactBurnChance", unfollowed := true, recurses := true, apart := false }
def FnExactBurnChanceSaid : Prop := fnExactBurnChanceRow.holds Try.pinned (OpenSpec.ofChange fnExactBurnChanceSpec)

/-- ITS FALSE NEIGHBOUR: 'it returns false'. Refute it at one input. -/
def fnExactBurnChanceWrong : ChangeSpec := { name := "fnExactBurnChance", fn := fun _ => fun
  | [d1, d2, d3, d4, d5, d6] => { results := [.lit (.bool false)], args := [d1, d2, d3, d4, d5, d6] }
  | _ => none }
def FnExactBurnChanceWrongFalsely : Prop := fnExactBurnChanceRow.holds Try.pinned (OpenSpec.ofChange fnExactBurnChanceWrong)

/-- 'laws.FnExactPossibleCells': WHATEVER THE INPUT: true; the input reads as it did. -/
def fnExactPossibleCellsSpec : ChangeSpec := { name := "fnExactPossibleCells", fn := fun _ => fun
  | [d1, d2, d3, d4, d5] => { results := [.lit (.bool true)], args := [d1, d2, d3, d4, d5] }
  | _ => none }
def fnExactPossibleCellsRow : OpenClaim := { program := "ytdfjfopbhlbmkaa", sum := "7f5ef22bbd7ec9bac771128399028ea9fb30ae228fc844b9d691110820b4792a", func := "loop.example/g00917/laws.FnExactPossibleCells", spec := "fnExactPossibleCells", unfollowed := true, recurses := true, apart := false }
def FnExactPossibleCellsSaid : Prop := fnExactPossibleCellsRow.holds Try.pinned (OpenSpec.ofChange fnExactPossibleCellsSpec)

/-- ITS FALSE NEIGHBOUR: 'it returns false'. Refute it at one input. -/
def fnExactPossibleCellsWrong : ChangeSpec := { name := "fnExactPossibleCells", fn := fun _ => fun
  | [d1, d2, d3, d4, d5] => { results := [.lit (.bool false)], args := [d1, d2, d3, d4, d5] }
  | _ => none }
def FnExactPossibleCellsWrongFalsely : Prop := fnExactPossibleCellsRow.holds Try.pinned (OpenSpec.ofChange fnExactPossibleCellsWrong)

/-- 'laws.FnExactSureCells': WHATEVER THE INPUT: true; the input reads as it did. -/
def fnExactSureCellsSpec : ChangeSpec := { name := "fnExactSureCells", fn := fun _ => fun
  | [d1, d2, d3, d4, d5] => { results := [.lit (.bool true)], args := [d1, d2, d3, d4, d5] }
  | _ => none }
def fnExactSureCellsRow : OpenClaim := { program := "ytdfjfopbhlbmkaa", sum := "7f5ef22bbd7ec9bac771128399028ea9fb30ae228fc844b9d691110820b4792a", func := "loop.example/g00917/laws.FnExactSureCells", spec := "fnExactSureCells", unfollowed := true, recurses := true, apart := false }
def FnExactSureCellsSaid : Prop := fnExactSureCellsRow.holds Try.pinned (OpenSpec.ofChange fnExactSureCellsSpec)

/-- ITS FALSE NEIGHBOUR: 'it returns false'. Refute it at one input. -/
def fnExactSureCellsWrong : ChangeSpec := { name := "fnExactSureCells", fn := fun _ => fun
  | [d1, d2, d3, d4, d5] => { results := [.lit (.bool false)], args := [d1, d2, d3, d4, d5] }
  | _ => none }
def FnExactSureCellsWrongFalsely : Prop := fnExactSureCellsRow.holds Try.pinned (OpenSpec.ofChange fnExactSureCellsWrong)

/- THE SECOND FORM. 'bulk': how many values and letters a reading holds, each counted each time it is reached (what is shared counts as often as it is met; a slice's spare places count too). A statement '..UptoSaid' is the law's where the arguments, and the package variables that the reading takes, are together of bulk at most 1048576: NARROWER than '..Said'. Prove '..Said' where nothing that the law and all that it calls make is longer than what came in: it says more and counts as full. Else prove '..UptoSaid'. A law counts once. -/
mutual
def uptoBulk {H : Type} : DataW H → Nat
  | .lit (.string bytes) => bytes.length + 1
  | .lit _ => 1
  | .nil => 1
  | .ptr d => uptoBulk d + 1
  | .slice elems spare => uptoBulkAll elems + uptoBulkAll spare + 1
  | .agg parts => uptoBulkAll parts + 1
  | .iface _ d => uptoBulk d + 1
  | .map entries => uptoBulkEntries entries + 1
  | .held _ => 1
def uptoBulkAll {H : Type} : List (DataW H) → Nat
  | [] => 0
  | d :: r => uptoBulk d + uptoBulkAll r
def uptoBulkEntries {H : Type} : List (Lit × DataW H) → Nat
  | [] => 0
  | x :: r => uptoBulkEntry x + uptoBulkEntries r
def uptoBulkEntry {H : Type} : Lit × DataW H → Nat
  | (.string bytes, d) => bytes.length + uptoBulk d + 1
  | (_, d) => uptoBulk d + 1
 end
def uptoSmall : (H : Type) → List (DataW H) → Bool := fun _ ds => decide (uptoBulkAll ds ≤ 1048576)
def OpenSpec.upto (s : _root_.Go.ChangeSpec) : _root_.Go.OpenSpec := { _root_.Go.OpenSpec.ofChange s with cond := some uptoSmall }

/-- 'laws.FnExactWorstScenario', WHERE WHAT IT READS IS OF BULK AT MOST 1048576: true; the input reads as it did. -/
def fnExactWorstScenarioUptoRow : OpenClaim := { program := "ytdfjfopbhlbmkaa", sum := "7f5ef22bbd7ec9bac771128399028ea9fb30ae228fc844b9d691110820b4792a", func := "loop.example/g00917/laws.FnExactWorstScenario", spec := "fnExactWorstScenario", unfollowed := true, recurses := true, apart := false, narrowed := true }
def FnExactWorstScenarioUptoSaid : Prop := fnExactWorstScenarioUptoRow.holds Try.pinned (OpenSpec.upto fnExactWorstScenarioSpec)

/-- 'laws.FnExactMeanBurned', WHERE WHAT IT READS IS OF BULK AT MOST 1048576: true; the input reads as it did. -/
def fnExactMeanBurnedUptoRow : OpenClaim := { program := "ytdfjfopbhlbmkaa", sum := "7f5ef22bbd7ec9bac771128399028ea9fb30ae228fc844b9d691110820b4792a", func := "loop.example/g00917/laws.FnExactMeanBurned", spec := "fnExactMeanBurned", unfollowed := true, recurses := true, apart := false, narrowed := true }
def FnExactMeanBurnedUptoSaid : Prop := fnExactMeanBurnedUptoRow.holds Try.pinned (OpenSpec.upto fnExactMeanBurnedSpec)

/-- 'laws.FnExactChanceAbove', WHERE WHAT IT READS IS OF BULK AT MOST 1048576: true; the input reads as it did. -/
def fnExactChanceAboveUptoRow : OpenClaim := { program := "ytdfjfopbhlbmkaa", sum := "7f5ef22bbd7ec9bac771128399028ea9fb30ae228fc844b9d691110820b4792a", func := "loop.example/g00917/laws.FnExactChanceAbove", spec := "fnExactChanceAbove", unfollowed := true, recurses := true, apart := false, narrowed := true }
def FnExactChanceAboveUptoSaid : Prop := fnExactChanceAboveUptoRow.holds Try.pinned (OpenSpec.upto fnExactChanceAboveSpec)

/-- 'laws.FnExactEarliestTimes', WHERE WHAT IT READS IS OF BULK AT MOST 1048576: true; the input reads as it did. -/
def fnExactEarliestTimesUptoRow : OpenClaim := { program := "ytdfjfopbhlbmkaa", sum := "7f5ef22bbd7ec9bac771128399028ea9fb30ae228fc844b9d691110820b4792a", func := "loop.example/g00917/laws.FnExactEarliestTimes", spec := "fnExactEarliestTimes", unfollowed := true, recurses := true, apart := false, narrowed := true }
def FnExactEarliestTimesUptoSaid : Prop := fnExactEarliestTimesUptoRow.holds Try.pinned (OpenSpec.upto fnExactEarliestTimesSpec)

/-- 'laws.FnExactLatestTimes', WHERE WHAT IT READS IS OF BULK AT MOST 1048576: true; the input reads as it did. -/
def fnExactLatestTimesUptoRow : OpenClaim := { program := "ytdfjfopbhlbmkaa", sum := "7f5ef22bbd7ec9bac771128399028ea9fb30ae228fc844b9d691110820b4792a", func := "loop.example/g00917/laws.FnExactLatestTimes", spec := "fnExactLatestTimes", unfollowed := true, recurses := true, apart := false, narrowed := true }
def FnExactLatestTimesUptoSaid : Prop := fnExactLatestTimesUptoRow.holds Try.pinned (OpenSpec.upto fnExactLatestTimesSpec)

/-- 'laws.FnExactBurnChance', WHERE WHAT IT READS IS OF BULK AT MOST 1048576: true; the input reads as it did. -/
def fnExactBurnChanceUptoRow : OpenClaim := { program := "ytdfjfopbhlbmkaa", sum := "7f5ef22bbd7ec9bac771128399028ea9fb30ae228fc844b9d691110820b4792a", func := "loop.example/g00917/laws.FnExactBurnChance", spec := "fnExactBurnChance", unfollowed := true, recurses := true, apart := false, narrowed := true }
def FnExactBurnChanceUptoSaid : Prop := fnExactBurnChanceUptoRow.holds Try.pinned (OpenSpec.upto fnExactBurnChanceSpec)

/-- 'laws.FnExactPossibleCells', WHERE WHAT IT READS IS OF BULK AT MOST 1048576: true; the input reads as it did. -/
def fnExactPossibleCellsUptoRow : OpenClaim := { program := "ytdfjfopbhlbmkaa", sum := "7f5ef22bbd7ec9bac771128399028ea9fb30ae228fc844b9d691110820b4792a", func := "loop.example/g00917/laws.FnExactPossibleCells", spec := "fnExactPossibleCells", unfollowed := true, recurses := true, apart := false, narrowed := true }
def FnExactPossibleCellsUptoSaid : Prop := fnExactPossibleCellsUptoRow.holds Try.pinned (OpenSpec.upto fnExactPossibleCellsSpec)

/-- 'laws.FnExactSureCells', WHERE WHAT IT READS IS OF BULK AT MOST 1048576: true; the input reads as it did. -/
def fnExactSureCellsUptoRow : OpenClaim := { program := "ytdfjfopbhlbmkaa", sum := "7f5ef22bbd7ec9bac771128399028ea9fb30ae228fc844b9d691110820b4792a", func := "loop.example/g00917/laws.FnExactSureCells", spec := "fnExactSureCells", unfollowed := true, recurses := true, apart := false, narrowed := true }
def FnExactSureCellsUptoSaid : Prop := fnExactSureCellsUptoRow.holds Try.pinned (OpenSpec.upto fnExactSureCellsSpec)

end Rows
end Go.Proofs.Ytdfjfopbhlbmkaa
