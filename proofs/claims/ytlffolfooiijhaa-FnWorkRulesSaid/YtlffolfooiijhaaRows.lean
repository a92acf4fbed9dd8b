/-
  No cell of these rows narrows 'for every input' (looked for: loops, veiled, ifaces, maps, wideKeys, modest, calm, conditions, laid).
  DERIVED. THE GIVEN ROWS OF THIS SEAT. 3 by the template 'for every input the law returns true; each argument reads behind the call as it read before'; 0 by the template 'total and deterministic' (their statements: YtlffolfooiijhaaTotals.lean).
  GIVEN WITH THE SEED: the statements are not yours to turn. If you find one false, say at which input.
  Laid BY PROGRAM, IN A SANDBOX (cutbox-rows.mjs): the forced cells as the released guide's own fill.sh prints them over the translation 0d707c93176a5bc4… (all of the seat's roots in one cut). By AI agents, Wed Nov 11 2026. No macro, syntax, notation, axiom, sorry.
-/
import Derived.Test.YtlffolfooiijhaaChecked
import GoSem.Claim
import GoSem.ClaimJoined
import GoSem.ClaimMapViews
import Derived.JoinedTies
import Derived.KernelRfl
namespace Go.Proofs.Ytlffolfooiijhaa
/- THE CELL 'sum', in the pinned program and in every row, IS THE sha256 OF THE DUMP (.gsa) THAT YtlffolfooiijhaaProg.lean LOADS. Nothing in Lean hashes anything: it is a label: what it is worth is what the hold of that sum in a sandbox is worth. -/
noncomputable def Try.pinned : Pinned := { name := "ytlffolfooiijhaa", sum := "0d707c93176a5bc4bb0f5fb314f28b5ee473bd9c615c7cad5def2897ca37d5a9", checked := Try.checked }
namespace Rows
def none {H : Type} : Left H := { results := [], args := [] }

/-- 'laws.FnExactAddDuty': WHATEVER THE INPUT: true; the input reads as it did. -/
def fnExactAddDutySpec : ChangeSpec := { name := "fnExactAddDuty", fn := fun _ => fun
  | [d1, d2] => { results := [.lit (.bool true)], args := [d1, d2] }
  | _ => none }
def fnExactAddDutyRow : OpenClaim := { program := "ytlffolfooiijhaa", sum := "0d707c93176a5bc4bb0f5fb314f28b5ee473bd9c615c7cad5def2897ca37d5a9", func := "loop.example/g00917/laws.FnExactAddDuty", spec := "fnExactAddDuty", unfollowed := true, recurses := true, apart := false }
def FnExactAddDutySaid : Prop := fnExactAddDutyRow.holds Try.pinned (OpenSpec.ofChange fnExactAddDutySpec)

/-- ITS FALSE NEIGHBOUR: 'it returns false'. Refute it at one input. -/
def fnExactAddDutyWrong : ChangeSpec := { name := "fnExactAddDuty", fn := fun _ => fun
  | [d1, d2] => { results := [.lit (.bool false)], args := [d1, d2] }
  | _ => none }
def FnExactAddDutyWrongFalsely : Prop := fnExactAddDutyRow.holds Try.pinned (OpenSpec.ofChange fnExactAddDutyWrong)

/-- 'laws.FnRosters': WHATEVER THE INPUT: true; the input reads as it did. -/
def fnRostersSpec : ChangeSpec := { name := "fnRosters", fn := fun _ => fun
  | [d] => { results := [.lit (.bool true)], args := [d] }
  | _ => none }
def fnRostersRow : OpenClaim := { program := "ytlffolfooiijhaa", sum := "0d707c93176a5bc4bb0f5fb314f28b5ee473bd9c615c7cad5def2897ca37d5a9", func := "loop.example/g00917/laws.FnRosters", spec := "fnRosters", unfollowed := true, recurses := true, apart := false }
def FnRostersSaid : Prop := fnRostersRow.holds Try.pinned (OpenSpec.ofChange fnRostersSpec)

/-- ITS FALSE NEIGHBOUR: 'it returns false'. Refute it at one input. -/
def fnRostersWrong : ChangeSpec := { name := "fnRosters", fn := fun _ => fun
  | [d] => { results := [.lit (.bool false)], args := [d] }
  | _ => none }
def FnRostersWrongFalsely : Prop := fnRostersRow.holds Try.pinned (OpenSpec.ofChange fnRostersWrong)

/-- 'laws.FnWorkRules': WHATEVER THE INPUT: true; the input reads as it did. -/
def fnWorkRulesSpec : ChangeSpec := { name := "fnWorkRules", fn := fun _ => fun
  | [d] => { results := [.lit (.bool true)], args := [d] }
  | _ => none }
def fnWorkRulesRow : OpenClaim := { program := "ytlffolfooiijhaa", sum := "0d707c93176a5bc4bb0f5fb314f28b5ee473bd9c615c7cad5def2897ca37d5a9", func := "loop.example/g00917/laws.FnWorkRules", spec := "fnWorkRules", unfollowed := true, recurses := true, apart := false }
def FnWorkRulesSaid : Prop := fnWorkRulesRow.holds Try.pinned (OpenSpec.ofChange fnWorkRulesSpec)

/-- ITS FALSE NEIGHBOUR: 'it returns false'. Refute it at one input. -/
def fnWorkRulesWrong : ChangeSpec := { name := "fnWorkRules", fn := fun _ => fun
  | [d] => { results := [.lit (.bool false)], args := [d] }
  | _ => none }
def FnWorkRulesWrongFalsely : Prop := fnWorkRulesRow.holds Try.pinned (OpenSpec.ofChange fnWorkRulesWrong)

/- THE SECOND FORM. 'bulk': how many values and letters a reading holds, each counted each time it is reached (what is shared counts as often as it is met; a slice's spare places count too). A statement '..UptoSaid' is the law's where the arguments, and the package variables that the reading takes, are together of bulk at most 1048576: NARROWER than '..Said'. Prove '..Said' where nothing that the law and all that it calls make is longer than what came in: it says more and counts as full. Else prove '..UptoSaid'. A law counts once. -/
mutual
def uptoBulk {H : Type} : DataW H → Nat
  | .lit (.string bytes) => bytes.length + 1
  | .lit _ => 1
  | .nil => 1
  | .ptr d => uptoBulk d + 1
  | .slice elems spare => uptoBulkAll elems + uptoBulkAll spare + 1
  | .agg parts => uptoBulkAll parts + 1
  | .iface _ d => uptoBulk d + 1
  | .map entries => uptoBulkEntries entries + 1
  | .held _ => 1
def uptoBulkAll {H : Type} : List (DataW H) → Nat
  | [] => 0
  | d :: r => uptoBulk d + uptoBulkAll r
def uptoBulkEntries {H : Type} : List (Lit × DataW H) → Nat
  | [] => 0
  | x :: r => uptoBulkEntry x + uptoBulkEntries r
def uptoBulkEntry {H : Type} : Lit × DataW H → Nat
  | (.string bytes, d) => bytes.length + uptoBulk d + 1
  | (_, d) => uptoBulk d + 1
 end
def uptoSmall : (H : Type) → List (DataW H) → Bool := fun _ ds => decide (uptoBulkAll ds ≤ 1048576)
def OpenSpec.upto (s : _root_.Go.ChangeSpec) : _root_.Go.OpenSpec := { _root_.Go.OpenSpec.ofChange s with cond := some uptoSmall }

/-- 'laws.FnExactAddDuty', WHERE WHAT IT READS IS OF BULK AT MOST 1048576: true; the input reads as it did. -/
def fnExactAddDutyUptoRow : OpenClaim := { program := "ytlffolfooiijhaa", sum := "0d707c93176a5bc4bb0f5fb314f28b5ee473bd9c615c7cad5def2897ca37d5a9", func := "loop.example/g00917/laws.FnExactAddDuty", spec := "fnExactAddDuty", unfollowed := true, recurses := true, apart := false, narrowed := true }
def FnExactAddDutyUptoSaid : Prop := fnExactAddDutyUptoRow.holds Try.pinned (OpenSpec.upto fnExactAddDutySpec)

/-- 'laws.FnRosters', WHERE WHAT IT READS IS OF BULK AT MOST 1048576: true; the input reads as it did. -/
def fnRostersUptoRow : OpenClaim := { program := "ytlffolfooiijhaa", sum := "0d707c93176a5bc4bb0f5fb314f28b5ee473bd9c615c7cad5def2897ca37d5a9", func := "loop.example/g00917/laws.FnRosters", spec := "fnRosters", unfollowed := true, recurses := true, apart := false, narrowed := true }
def FnRostersUptoSaid : Prop := fnRostersUptoRow.holds Try.pinned (OpenSpec.upto fnRostersSpec)

/-- 'laws.FnWorkRules', WHERE WHAT IT READS IS OF BULK AT MOST 1048576: true; the input reads as it did. -/
def fnWorkRulesUptoRow : OpenClaim := { program := "ytlffolfooiijhaa", sum := "0d707c93176a5bc4bb0f5fb314f28b5ee473bd9c615c7cad5def2897ca37d5a9", func := "loop.example/g00917/laws.FnWorkRules", spec := "fnWorkRules", unfollowed := true, recurses := true, apart := false, narrowed := true }
def FnWorkRulesUptoSaid : Prop := fnWorkRulesUptoRow.holds Try.pinned (OpenSpec.upto fnWorkRulesSpec)

end Rows
end Go.Proofs.Ytlffolfooiijhaa
