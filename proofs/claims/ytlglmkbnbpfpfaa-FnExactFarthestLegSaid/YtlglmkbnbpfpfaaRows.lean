/-
  No cell of these rows narrows 'for every input' (looked for: loops, veiled, ifaces, maps, wideKeys, modest, calm, conditions, laid).
  DERIVED. THE GIVEN ROWS OF THIS SEAT. 5 by the template 'for every input the law returns true; each argument reads behind the call as it read before'; 0 by the template 'total and deterministic' (their statements: YtlglmkbnbpfpfaaTotals.lean).
  GIVEN WITH THE SEED: the statements are not yours to turn. If you find one false, say at which input.
  Laid BY PROGRAM, IN A SANDBOX (cutbox-rows.mjs): the forced cells as the released guide's own fill.sh prints them over the translation d67eaac38c776c83… (all of the seat's roots in one cut). By AI agents, Wed Nov 11 2026. No macro, syntax, notation, axiom, sorry.
-/
import Derived.Test.YtlglmkbnbpfpfaaChecked
import GoSem.Claim
import GoSem.ClaimJoined
import GoSem.ClaimMapViews
import Derived.JoinedTies
import Derived.KernelRfl
namespace Go.Proofs.Ytlglmkbnbpfpfaa
/- THE CELL 'sum', in the pinned program and in every row, IS THE sha256 OF THE DUMP (.gsa) THAT YtlglmkbnbpfpfaaProg.lean LOADS. Nothing in Lean hashes anything: it is a label: what it is worth is what the hold of that sum in a sandbox is worth. -/
noncomputable def Try.pinned : Pinned := { name := "ytlglmkbnbpfpfaa", sum := "d67eaac38c776c8316cc1e6964a39112f117c55a77803151f954132a40aa6090", checked := Try.checked }
namespace Rows
def none {H : Type} : Left H := { results := [], args := [] }

/-- 'laws.FnExactIsTarget': WHATEVER THE INPUT: true; the input reads as it did. -/
def fnExactIsTargetSpec : ChangeSpec := { name := "fnExactIsTarget", fn := fun _ => fun
  | [d] => { results := [.lit (.bool true)], args := [d] }
  | _ => none }
def fnExactIsTargetRow : OpenClaim := { program := "ytlglmkbnbpfpfaa", sum := "d67eaac38c776c8316cc1e6964a39112f117c55a77803151f954132a40aa6090", func := "loop.example/g00917/laws.FnExactIsTarget", spec := "fnExactIsTarget", apart := false }
def FnExactIsTargetSaid : Prop := fnExactIsTargetRow.holds Try.pinned (OpenSpec.ofChange fnExactIsTargetSpec)

/-- ITS FALSE NEIGHBOUR: 'it returns false'. Refute it at one input. -/
def fnExactIsTargetWrong : ChangeSpec := { name := "fnExactIsTarget", fn := fun _ => fun
  | [d] => { results := [.lit (.bool false)], args := [d] }
  | _ => none }
def FnExactIsTargetWrongFalsely : Prop := fnExactIsTargetRow.holds Try.pinned (OpenSpec.ofChange fnExactIsTargetWrong)

/-- 'laws.FnExactIsAircraft': WHATEVER THE INPUT: true; the input reads as it did. -/
def fnExactIsAircraftSpec : ChangeSpec := { name := "fnExactIsAircraft", fn := fun _ => fun
  | [d] => { results := [.lit (.bool true)], args := [d] }
  | _ => none }
def fnExactIsAircraftRow : OpenClaim := { program := "ytlglmkbnbpfpfaa", sum := "d67eaac38c776c8316cc1e6964a39112f117c55a77803151f954132a40aa6090", func := "loop.example/g00917/laws.FnExactIsAircraft", spec := "fnExactIsAircraft", apart := false }
def FnExactIsAircraftSaid : Prop := fnExactIsAircraftRow.holds Try.pinned (OpenSpec.ofChange fnExactIsAircraftSpec)

/-- ITS FALSE NEIGHBOUR: 'it returns false'. Refute it at one input. -/
def fnExactIsAircraftWrong : ChangeSpec := { name := "fnExactIsAircraft", fn := fun _ => fun
  | [d] => { results := [.lit (.bool false)], args := [d] }
  | _ => none }
def FnExactIsAircraftWrongFalsely : Prop := fnExactIsAircraftRow.holds Try.pinned (OpenSpec.ofChange fnExactIsAircraftWrong)

/-- 'laws.FnExactSortieMinutes': WHATEVER THE INPUT: true; the input reads as it did. -/
def fnExactSortieMinutesSpec : ChangeSpec := { name := "fnExactSortieMinutes", fn := fun _ => fun
  | [d1, d2, d3] => { results := [.lit (.bool true)], args := [d1, d2, d3] }
  | _ => none }
def fnExactSortieMinutesRow : OpenClaim := { program := "ytlglmkbnbpfpfaa", sum := "d67eaac38c776c8316cc1e6964a39112f117c55a77803151f954132a40aa6090", func := "loop.example/g00917/laws.FnExactSortieMinutes", spec := "fnExactSortieMinutes", apart := false }
def FnExactSortieMinutesSaid : Prop := fnExactSortieMinutesRow.holds Try.pinned (OpenSpec.ofChange fnExactSortieMinutesSpec)

/-- ITS FALSE NEIGHBOUR: 'it returns false'. Refute it at one input. -/
def fnExactSortieMinutesWrong : ChangeSpec := { name := "fnExactSortieMinutes", fn := fun _ => fun
  | [d1, d2, d3] => { results := [.lit (.bool false)], args := [d1, d2, d3] }
  | _ => none }
def FnExactSortieMinutesWrongFalsely : Prop := fnExactSortieMinutesRow.holds Try.pinned (OpenSpec.ofChange fnExactSortieMinutesWrong)

/-- 'laws.FnExactFarthestLeg': WHATEVER THE INPUT: true; the input reads as it did. -/
def fnExactFarthestLegSpec : ChangeSpec := { name := "fnExactFarthestLeg", fn := fun _ => fun
  | [d1, d2] => { results := [.lit (.bool true)], args := [d1, d2] }
  | _ => none }
def fnExactFarthestLegRow : OpenClaim := { program := "ytlglmkbnbpfpfaa", sum := "d67eaac38c776c8316cc1e6964a39112f117c55a77803151f954132a40aa6090", func := "loop.example/g00917/laws.FnExactFarthestLeg", spec := "fnExactFarthestLeg", apart := false }
def FnExactFarthestLegSaid : Prop := fnExactFarthestLegRow.holds Try.pinned (OpenSpec.ofChange fnExactFarthestLegSpec)

/-- ITS FALSE NEIGHBOUR: 'it returns false'. Refute it at one input. -/
def fnExactFarthestLegWrong : ChangeSpec := { name := "fnExactFarthestLeg", fn := fun _ => fun
  | [d1, d2] => { results := [.lit (.bool false)], args := [d1, d2] }
  | _ => none }
def FnExactFarthestLegWrongFalsely : Prop := fnExactFarthestLegRow.holds Try.pinned (OpenSpec.ofChange fnExactFarthestLegWrong)

/-- 'laws.FnExactMostDrops': WHATEVER THE INPUT: true; the input reads as it did. -/
def fnExactMostDropsSpec : ChangeSpec := { name := "fnExactMostDrops", fn := fun _ => fun
  | [d1, d2] => { results := [.lit (.bool true)], args := [d1, d2] }
  | _ => none }
def fnExactMostDropsRow : OpenClaim := { program := "ytlglmkbnbpfpfaa", sum := "d67eaac38c776c8316cc1e6964a39112f117c55a77803151f954132a40aa6090", func := "loop.example/g00917/laws.FnExactMostDrops", spec := "fnExactMostDrops", apart := false }
def FnExactMostDropsSaid : Prop := fnExactMostDropsRow.holds Try.pinned (OpenSpec.ofChange fnExactMostDropsSpec)

/-- ITS FALSE NEIGHBOUR: 'it returns false'. Refute it at one input. -/
def fnExactMostDropsWrong : ChangeSpec := { name := "fnExactMostDrops", fn := fun _ => fun
  | [d1, d2] => { results := [.lit (.bool false)], args := [d1, d2] }
  | _ => none }
def FnExactMostDropsWrongFalsely : Prop := fnExactMostDropsRow.holds Try.pinned (OpenSpec.ofChange fnExactMostDropsWrong)

/- THE SECOND FORM. 'bulk': how many values and letters a reading holds, each counted each time it is reached (what is shared counts as often as it is met; a slice's spare places count too). A statement '..UptoSaid' is the law's where the arguments, and the package variables that the reading takes, are together of bulk at most 1048576: NARROWER than '..Said'. Prove '..Said' where nothing that the law and all that it calls make is longer than what came in: it says more and counts as full. Else prove '..UptoSaid'. A law counts once. -/
mutual
def uptoBulk {H : Type} : DataW H → Nat
  | .lit (.string bytes) => bytes.length + 1
  | .lit _ => 1
  | .nil => 1
  | .ptr d => uptoBulk d + 1
  | .slice elems spare => uptoBulkAll elems + uptoBulkAll spare + 1
  | .agg parts => uptoBulkAll parts + 1
  | .iface _ d => uptoBulk d + 1
  | .map entries => uptoBulkEntries entries + 1
  | .held _ => 1
def uptoBulkAll {H : Type} : List (DataW H) → Nat
  | [] => 0
  | d :: r => uptoBulk d + uptoBulkAll r
def uptoBulkEntries {H : Type} : List (Lit × DataW H) → Nat
  | [] => 0
  | x :: r => uptoBulkEntry x + uptoBulkEntries r
def uptoBulkEntry {H : Type} : Lit × DataW H → Nat
  | (.string bytes, d) => bytes.length + uptoBulk d + 1
  | (_, d) => uptoBulk d + 1
 end
def uptoSmall : (H : Type) → List (DataW H) → Bool := fun _ ds => decide (uptoBulkAll ds ≤ 1048576)
def OpenSpec.upto (s : _root_.Go.ChangeSpec) : _root_.Go.OpenSpec := { _root_.Go.OpenSpec.ofChange s with cond := some uptoSmall }

/-- 'laws.FnExactIsTarget', WHERE WHAT IT READS IS OF BULK AT MOST 1048576: true; the input reads as it did. -/
def fnExactIsTargetUptoRow : OpenClaim := { program := "ytlglmkbnbpfpfaa", sum := "d67eaac38c776c8316cc1e6964a39112f117c55a77803151f954132a40aa6090", func := "loop.example/g00917/laws.FnExactIsTarget", spec := "fnExactIsTarget", apart := false, narrowed := true }
def FnExactIsTargetUptoSaid : Prop := fnExactIsTargetUptoRow.holds Try.pinned (OpenSpec.upto fnExactIsTargetSpec)

/-- 'laws.FnExactIsAircraft', WHERE WHAT IT READS IS OF BULK AT MOST 1048576: true; the input reads as it did. -/
def fnExactIsAircraftUptoRow : OpenClaim := { program := "ytlglmkbnbpfpfaa", sum := "d67eaac38c776c8316cc1e6964a39112f117c55a77803151f954132a40aa6090", func := "loop.example/g00917/laws.FnExactIsAircraft", spec := "fnExactIsAircraft", apart := false, narrowed := true }
def FnExactIsAircraftUptoSaid : Prop := fnExactIsAircraftUptoRow.holds Try.pinned (OpenSpec.upto fnExactIsAircraftSpec)

/-- 'laws.FnExactSortieMinutes', WHERE WHAT IT READS IS OF BULK AT MOST 1048576: true; the input reads as it did. -/
def fnExactSortieMinutesUptoRow : OpenClaim := { program := "ytlglmkbnbpfpfaa", sum := "d67eaac38c776c8316cc1e6964a39112f117c55a77803151f954132a40aa6090", func := "loop.example/g00917/laws.FnExactSortieMinutes", spec := "fnExactSortieMinutes", apart := false, narrowed := true }
def FnExactSortieMinutesUptoSaid : Prop := fnExactSortieMinutesUptoRow.holds Try.pinned (OpenSpec.upto fnExactSortieMinutesSpec)

/-- 'laws.FnExactFarthestLeg', WHERE WHAT IT READS IS OF BULK AT MOST 1048576: true; the input reads as it did. -/
def fnExactFarthestLegUptoRow : OpenClaim := { program := "ytlglmkbnbpfpfaa", sum := "d67eaac38c776c8316cc1e6964a39112f117c55a77803151f954132a40aa6090", func := "loop.example/g00917/laws.FnExactFarthestLeg", spec := "fnExactFarthestLeg", apart := false, narrowed := true }
def FnExactFarthestLegUptoSaid : Prop := fnExactFarthestLegUptoRow.holds Try.pinned (OpenSpec.upto fnExactFarthestLegSpec)

/-- 'laws.FnExactMostDrops', WHERE WHAT IT READS IS OF BULK AT MOST 1048576: true; the input reads as it did. -/
def fnExactMostDropsUptoRow : OpenClaim := { program := "ytlglmkbnbpfpfaa", sum := "d67eaac38c776c8316cc1e6964a39112f117c55a77803151f954132a40aa6090", func := "loop.example/g00917/laws.FnExactMostDrops", spec := "fnExactMostDrops", apart := false, narrowed := true }
def FnExactMostDropsUptoSaid : Prop := fnExactMostDropsUptoRow.holds Try.pinned (OpenSpec.upto fnExactMostDropsSpec)

end Rows
end Go.Proofs.Ytlglmkbnbpfpfaa
