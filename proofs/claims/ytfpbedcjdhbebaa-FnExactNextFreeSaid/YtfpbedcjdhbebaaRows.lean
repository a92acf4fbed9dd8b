/-
  No cell of these rows narrows 'for every input' (looked for: loops, veiled, ifaces, maps, wideKeys, modest, calm, conditions, laid).
  DERIVED. THE GIVEN ROWS OF THIS SEAT. 7 by the template 'for every input the law returns true; each argument reads behind the call as it read before'; 0 by the template 'total and deterministic' (their statements: YtfpbedcjdhbebaaTotals.lean).
  GIVEN WITH THE SEED: the statements are not yours to turn. If you find one false, say at which input.
  Laid BY PROGRAM, IN A SANDBOX (cutbox-rows.mjs): the forced cells as the released guide's own fill.sh prints them over the translation 77abf4f232baf2e3… (all of the seat's roots in one cut). By AI agents, Wed Nov 11 2026. No macro, syntax, notation, axiom, sorry.
-/
import Derived.Test.YtfpbedcjdhbebaaChecked
import GoSem.Claim
import GoSem.ClaimJoined
import GoSem.ClaimMapViews
import Derived.JoinedTies
import Derived.KernelRfl
namespace Go.Proofs.Ytfpbedcjdhbebaa
/- THE CELL 'sum', in the pinned program and in every row, IS THE sha256 OF THE DUMP (.gsa) THAT YtfpbedcjdhbebaaProg.lean LOADS. Nothing in Lean hashes anything: it is a label: what it is worth is what the hold of that sum in a sandbox is worth. -/
noncomputable def Try.pinned : Pinned := { name := "ytfpbedcjdhbebaa", sum := "77abf4f232baf2e3ef58ed06910bc810ce9e95dddd73665647c30ebed8e4a62f", checked := Try.checked }
namespace Rows
def none {H : Type} : Left H := { results := [], args := [] }

/-- 'laws.FnExactThinHours': WHATEVER THE INPUT: true; the input reads as it did. -/
def fnExactThinHoursSpec : ChangeSpec := { name := "fnExactThinHours", fn := fun _ => fun
  | [d1, d2, d3, d4] => { results := [.lit (.bool true)], args := [d1, d2, d3, d4] }
  | _ => none }
def fnExactThinHoursRow : OpenClaim := { program := "ytfpbedcjdhbebaa", sum := "77abf4f232baf2e3ef58ed06910bc810ce9e95dddd73665647c30ebed8e4a62f", func := "loop.example/g00917/laws.FnExactThinHours", spec := "fnExactThinHours", apart := false }
def FnExactThinHoursSaid : Prop := fnExactThinHoursRow.holds Try.pinned (OpenSpec.ofChange fnExactThinHoursSpec)

/-- ITS FALSE NEIGHBOUR: 'it returns false'. Refute it at one input. -/
def fnExactThinHoursWrong : ChangeSpec := { name := "fnExactThinHours", fn := fun _ => fun
  | [d1, d2, d3, d4] => { results := [.lit (.bool false)], args := [d1, d2, d3, d4] }
  | _ => none }
def FnExactThinHoursWrongFalsely : Prop := fnExactThinHoursRow.holds Try.pinned (OpenSpec.ofChange fnExactThinHoursWrong)

/-- 'laws.FnExactBrokenRules': WHATEVER THE INPUT: true; the input reads as it did. -/
def fnExactBrokenRulesSpec : ChangeSpec := { name := "fnExactBrokenRules", fn := fun _ => fun
  | [d1, d2, d3] => { results := [.lit (.bool true)], args := [d1, d2, d3] }
  | _ => none }
def fnExactBrokenRulesRow : OpenClaim := { program := "ytfpbedcjdhbebaa", sum := "77abf4f232baf2e3ef58ed06910bc810ce9e95dddd73665647c30ebed8e4a62f", func := "loop.example/g00917/laws.FnExactBrokenRules", spec := "fnExactBrokenRules", apart := false }
def FnExactBrokenRulesSaid : Prop := fnExactBrokenRulesRow.holds Try.pinned (OpenSpec.ofChange fnExactBrokenRulesSpec)

/-- ITS FALSE NEIGHBOUR: 'it returns false'. Refute it at one input. -/
def fnExactBrokenRulesWrong : ChangeSpec := { name := "fnExactBrokenRules", fn := fun _ => fun
  | [d1, d2, d3] => { results := [.lit (.bool false)], args := [d1, d2, d3] }
  | _ => none }
def FnExactBrokenRulesWrongFalsely : Prop := fnExactBrokenRulesRow.holds Try.pinned (OpenSpec.ofChange fnExactBrokenRulesWrong)

/-- 'laws.FnExactAddDuty': WHATEVER THE INPUT: true; the input reads as it did. -/
def fnExactAddDutySpec : ChangeSpec := { name := "fnExactAddDuty", fn := fun _ => fun
  | [d1, d2] => { results := [.lit (.bool true)], args := [d1, d2] }
  | _ => none }
def fnExactAddDutyRow : OpenClaim := { program := "ytfpbedcjdhbebaa", sum := "77abf4f232baf2e3ef58ed06910bc810ce9e95dddd73665647c30ebed8e4a62f", func := "loop.example/g00917/laws.FnExactAddDuty", spec := "fnExactAddDuty", unfollowed := true, recurses := true, apart := false }
def FnExactAddDutySaid : Prop := fnExactAddDutyRow.holds Try.pinned (OpenSpec.ofChange fnExactAddDutySpec)

/-- ITS FALSE NEIGHBOUR: 'it returns false'. Refute it at one input. -/
def fnExactAddDutyWrong : ChangeSpec := { name := "fnExactAddDuty", fn := fun _ => fun
  | [d1, d2] => { results := [.lit (.bool false)], args := [d1, d2] }
  | _ => none }
def FnExactAddDutyWrongFalsely : Prop := fnExactAddDutyRow.holds Try.pinned (OpenSpec.ofChange fnExactAddDutyWrong)

/-- 'laws.FnExactMayWork': WHATEVER THE INPUT: true; the input reads as it did. -/
def fnExactMayWorkSpec : ChangeSpec := { name := "fnExactMayWork", fn := fun _ => fun
  | [d1, d2, d3] => { results := [.lit (.bool true)], args := [d1, d2, d3] }
  | _ => none }
def fnExactMayWorkRow : OpenClaim := { program := "ytfpbedcjdhbebaa", sum := "77abf4f232baf2e3ef58ed06910bc810ce9e95dddd73665647c30ebed8e4a62f", func := "loop.example/g00917/laws.FnExactMayWork", spec := "fnExactMayWork", unfollowed := true, recurses := true, apart := false }
def FnExactMayWorkSaid : Prop := fnExactMayWorkRow.holds Try.pinned (OpenSpec.ofChange fnExactMayWorkSpec)

/-- ITS FALSE NEIGHBOUR: 'it returns false'. Refute it at one input. -/
def fnExactMayWorkWrong : ChangeSpec := { name := "fnExactMayWork", fn := fun _ => fun
  | [d1, d2, d3] => { results := [.lit (.bool false)], args := [d1, d2, d3] }
  | _ => none }
def FnExactMayWorkWrongFalsely : Prop := fnExactMayWorkRow.holds Try.pinned (OpenSpec.ofChange fnExactMayWorkWrong)

/-- 'laws.FnExactNextFree': WHATEVER THE INPUT: true; the input reads as it did. -/
def fnExactNextFreeSpec : ChangeSpec := { name := "fnExactNextFree", fn := fun _ => fun
  | [d1, d2, d3, d4, d5] => { results := [.lit (.bool true)], args := [d1, d2, d3, d4, d5] }
  | _ => none }
def fnExactNextFreeRow : OpenClaim := { program := "ytfpbedcjdhbebaa", sum := "77abf4f232baf2e3ef58ed06910bc810ce9e95dddd73665647c30ebed8e4a62f", func := "loop.example/g00917/laws.FnExactNextFree", spec := "fnExactNextFree", unfollowed := true, recurses := true, apart := false }
def FnExactNextFreeSaid : Prop := fnExactNextFreeRow.holds Try.pinned (OpenSpec.ofChange fnExactNextFreeSpec)

/-- ITS FALSE NEIGHBOUR: 'it returns false'. Refute it at one input. -/
def fnExactNextFreeWrong : ChangeSpec := { name := "fnExactNextFree", fn := fun _ => fun
  | [d1, d2, d3, d4, d5] => { results := [.lit (.bool false)], args := [d1, d2, d3, d4, d5] }
  | _ => none }
def FnExactNextFreeWrongFalsely : Prop := fnExactNextFreeRow.holds Try.pinned (OpenSpec.ofChange fnExactNextFreeWrong)

/-- 'laws.FnRosters': WHATEVER THE INPUT: true; the input reads as it did. -/
def fnRostersSpec : ChangeSpec := { name := "fnRosters", fn := fun _ => fun
  | [d] => { results := [.lit (.bool true)], args := [d] }
  | _ => none }
def fnRostersRow : OpenClaim := { program := "ytfpbedcjdhbebaa", sum := "77abf4f232baf2e3ef58ed06910bc810ce9e95dddd73665647c30ebed8e4a62f", func := "loop.example/g00917/laws.FnRosters", spec := "fnRosters", unfollowed := true, recurses := true, apart := false }
def FnRostersSaid : Prop := fnRostersRow.holds Try.pinned (OpenSpec.ofChange fnRostersSpec)

/-- ITS FALSE NEIGHBOUR: 'it returns false'. Refute it at one input. -/
def fnRostersWrong : ChangeSpec := { name := "fnRosters", fn := fun _ => fun
  | [d] => { results := [.lit (.bool false)], args := [d] }
  | _ => none }
def FnRostersWrongFalsely : Prop := fnRostersRow.holds Try.pinned (OpenSpec.ofChange fnRostersWrong)

/-- 'laws.FnWorkRules': WHATEVER THE INPUT: true; the input reads as it did. -/
def fnWorkRulesSpec : ChangeSpec := { name := "fnWorkRules", fn := fun _ => fun
  | [d] => { results := [.lit (.bool true)], args := [d] }
  | _ => none }
def fnWorkRulesRow : OpenClaim := { program := "ytfpbedcjdhbebaa", sum := "77abf4f232baf2e3ef58ed06910bc810ce9e95dddd73665647c30ebed8e4a62f", func := "loop.example/g00917/laws.FnWorkRules", spec := "fnWorkRules", unfollowed := true, recurses := true, apart := false }
def FnWorkRulesSaid : Prop := fnWorkRulesRow.holds Try.pinned (OpenSpec.ofChange fnWorkRulesSpec)

/-- ITS FALSE NEIGHBOUR: 'it returns false'. Refute it at one input. -/
def fnWorkRulesWrong : ChangeSpec := { name := "fnWorkRules", fn := fun _ => fun
  | [d] => { results := [.lit (.bool false)], args := [d] }
  | _ => none }
def FnWorkRulesWrongFalsely : Prop := fnWorkRulesRow.holds Try.pinned (OpenSpec.ofChange fnWorkRulesWrong)

/- THE SECOND FORM. 'bulk': how many values and letters a reading holds, each counted each time it is reached (what is shared counts as often as it is met; a slice's spare places count too). A statement '..UptoSaid' is the law's where the arguments, and the package variables that the reading takes, are together of bulk at most 1048576: NARROWER than '..Said'. Prove '..Said' where nothing that the law and all that it calls make is longer than what came in: it says more and counts as full. Else prove '..UptoSaid'. A law counts once. -/
mutual
def uptoBulk {H : Type} : DataW H → Nat
  | .lit (.string bytes) => bytes.length + 1
  | .lit _ => 1
  | .nil => 1
  | .ptr d => uptoBulk d + 1
  | .slice elems spare => uptoBulkAll elems + uptoBulkAll spare + 1
  | .agg parts => uptoBulkAll parts + 1
  | .iface _ d => uptoBulk d + 1
  | .map entries => uptoBulkEntries entries + 1
  | .held _ => 1
def uptoBulkAll {H : Type} : List (DataW H) → Nat
  | [] => 0
  | d :: r => uptoBulk d + uptoBulkAll r
def uptoBulkEntries {H : Type} : List (Lit × DataW H) → Nat
  | [] => 0
  | x :: r => uptoBulkEntry x + uptoBulkEntries r
def uptoBulkEntry {H : Type} : Lit × DataW H → Nat
  | (.string bytes, d) => bytes.length + uptoBulk d + 1
  | (_, d) => uptoBulk d + 1
 end
def uptoSmall : (H : Type) → List (DataW H) → Bool := fun _ ds => decide (uptoBulkAll ds ≤ 1048576)
def OpenSpec.upto (s : _root_.Go.ChangeSpec) : _root_.Go.OpenSpec := { _root_.Go.OpenSpec.ofChange s with cond := some uptoSmall }

/-- 'laws.FnExactThinHours', WHERE WHAT IT READS IS OF BULK AT MOST 1048576: true; the input reads as it did. -/
def fnExactThinHoursUptoRow : OpenClaim := { program := "ytfpbedcjdhbebaa", sum := "77abf4f232baf2e3ef58ed06910bc810ce9e95dddd73665647c30ebed8e4a62f", func := "loop.example/g00917/laws.FnExactThinHours", spec := "fnExactThinHours", apart := false, narrowed := true }
def FnExactThinHoursUptoSaid : Prop := fnExactThinHoursUptoRow.holds Try.pinned (OpenSpec.upto fnExactThinHoursSpec)

/-- 'laws.FnExactBrokenRules', WHERE WHAT IT READS IS OF BULK AT MOST 1048576: true; the input reads as it did. -/
def fnExactBrokenRulesUptoRow : OpenClaim := { program := "ytfpbedcjdhbebaa", sum := "77abf4f232baf2e3ef58ed06910bc810ce9e95dddd73665647c30ebed8e4a62f", func := "loop.example/g00917/laws.FnExactBrokenRules", spec := "fnExactBrokenRules", apart := false, narrowed := true }
def FnExactBrokenRulesUptoSaid : Prop := fnExactBrokenRulesUptoRow.holds Try.pinned (OpenSpec.upto fnExactBrokenRulesSpec)

/-- 'laws.FnExactAddDuty', WHERE WHAT IT READS IS OF BULK AT MOST 1048576: true; the input reads as it did. -/
def fnExactAddDutyUptoRow : OpenClaim := { program := "ytfpbedcjdhbebaa", sum := "77abf4f232baf2e3ef58ed06910bc810ce9e95dddd73665647c30ebed8e4a62f", func := "loop.example/g00917/laws.FnExactAddDuty", spec := "fnExactAddDuty", unfollowed := true, recurses := true, apart := false, narrowed := true }
def FnExactAddDutyUptoSaid : Prop := fnExactAddDutyUptoRow.holds Try.pinned (OpenSpec.upto fnExactAddDutySpec)

/-- 'laws.FnExactMayWork', WHERE WHAT IT READS IS OF BULK AT MOST 1048576: true; the input reads as it did. -/
def fnExactMayWorkUptoRow : OpenClaim := { program := "ytfpbedcjdhbebaa", sum := "77abf4f232baf2e3ef58ed06910bc810ce9e95dddd73665647c30ebed8e4a62f", func := "loop.example/g00917/laws.FnExactMayWork", spec := "fnExactMayWork", unfollowed := true, recurses := true, apart := false, narrowed := true }
def FnExactMayWorkUptoSaid : Prop := fnExactMayWorkUptoRow.holds Try.pinned (OpenSpec.upto fnExactMayWorkSpec)

/-- 'laws.FnExactNextFree', WHERE WHAT IT READS IS OF BULK AT MOST 1048576: true; the input reads as it did. -/
def fnExactNextFreeUptoRow : OpenClaim := { program := "ytfpbedcjdhbebaa", sum := "77abf4f232baf2e3ef58ed06910bc810ce9e95dddd73665647c30ebed8e4a62f", func := "loop.example/g00917/laws.FnExactNextFree", spec := "fnExactNextFree", unfollowed := true, recurses := true, apart := false, narrowed := true }
def FnExactNextFreeUptoSaid : Prop := fnExactNextFreeUptoRow.holds Try.pinned (OpenSpec.upto fnExactNextFreeSpec)

/-- 'laws.FnRosters', WHERE WHAT IT READS IS OF BULK AT MOST 1048576: true; the input reads as it did. -/
def fnRostersUptoRow : OpenClaim := { program := "ytfpbedcjdhbebaa", sum := "77abf4f232baf2e3ef58ed06910bc810ce9e95dddd73665647c30ebed8e4a62f", func := "loop.example/g00917/laws.FnRosters", spec := "fnRosters", unfollowed := true, recurses := true, apart := false, narrowed := true }
def FnRostersUptoSaid : Prop := fnRostersUptoRow.holds Try.pinned (OpenSpec.upto fnRostersSpec)

/-- 'laws.FnWorkRules', WHERE WHAT IT READS IS OF BULK AT MOST 1048576: true; the input reads as it did. -/
def fnWorkRulesUptoRow : OpenClaim := { program := "ytfpbedcjdhbebaa", sum := "77abf4f232baf2e3ef58ed06910bc810ce9e95dddd73665647c30ebed8e4a62f", func := "loop.example/g00917/laws.FnWorkRules", spec := "fnWorkRules", unfollowed := true, recurses := true, apart := false, narrowed := true }
def FnWorkRulesUptoSaid : Prop := fnWorkRulesUptoRow.holds Try.pinned (OpenSpec.upto fnWorkRulesSpec)

end Rows
end Go.Proofs.Ytfpbedcjdhbebaa
