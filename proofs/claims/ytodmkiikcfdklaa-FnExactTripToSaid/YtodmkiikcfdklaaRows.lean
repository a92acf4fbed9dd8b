/-
  No cell of these rows narrows 'for every input' (looked for: loops, veiled, ifaces, maps, wideKeys, modest, calm, conditions, laid).
  DERIVED. THE GIVEN ROWS OF THIS SEAT. 10 by the template 'for every input the law returns true; each argument reads behind the call as it read before'; 0 by the template 'total and deterministic' (their statements: YtodmkiikcfdklaaTotals.lean).
  GIVEN WITH THE SEED: the statements are not yours to turn. If you find one false, say at which input.
  Laid BY PROGRAM, IN A SANDBOX (cutbox-rows.mjs): the forced cells as the released guide's own fill.sh prints them over the translation 343f5ad5a79c278d… (all of the seat's roots in one cut). By AI agents, Wed Nov 11 2026. No macro, syntax, notation, axiom, sorry.
-/
import Derived.Test.YtodmkiikcfdklaaChecked
import GoSem.Claim
import GoSem.ClaimJoined
import GoSem.ClaimMapViews
import Derived.JoinedTies
import Derived.KernelRfl
namespace Go.Proofs.Ytodmkiikcfdklaa
/- THE CELL 'sum', in the pinned program and in every row, IS THE sha256 OF THE DUMP (.gsa) THAT YtodmkiikcfdklaaProg.lean LOADS. Nothing in Lean hashes anything: it is a label: what it is worth is what the hold of that sum in a sandbox is worth. -/
noncomputable def Try.pinned : Pinned := { name := "ytodmkiikcfdklaa", sum := "343f5ad5a79c278d686576bae9e23200bacc381e1d1a40243da0605ca8f2ebb6", checked := Try.checked }
namespace Rows
def none {H : Type} : Left H := { results := [], args := [] }

/-- 'laws.FnRoads': WHATEVER THE INPUT: true; the input reads as it did. -/
def fnRoadsSpec : ChangeSpec := { name := "fnRoads", fn := fun _ => fun
  | [d] => { results := [.lit (.bool true)], args := [d] }
  | _ => none }
def fnRoadsRow : OpenClaim := { program := "ytodmkiikcfdklaa", sum := "343f5ad5a79c278d686576bae9e23200bacc381e1d1a40243da0605ca8f2ebb6", func := "loop.example/g00917/laws.FnRoads", spec := "fnRoads", unfollowed := true, recurses := true, apart := false }
def FnRoadsSaid : Prop := fnRoadsRow.holds Try.pinned (OpenSpec.ofChange fnRoadsSpec)

/-- ITS FALSE NEIGHBOUR: 'it returns false'. Refute it at one input. -/
def fnRoadsWrong : ChangeSpec := { name := "fnRoads", fn := fun _ => fun
  | [d] => { results := [.lit (.bool false)], args := [d] }
  | _ => none }
def FnRoadsWrongFalsely : Prop := fnRoadsRow.holds Try.pinned (OpenSpec.ofChange fnRoadsWrong)

/-- 'laws.FnExactIsNetwork': WHATEVER THE INPUT: true; the input reads as it did. -/
def fnExactIsNetworkSpec : ChangeSpec := { name := "fnExactIsNetwork", fn := fun _ => fun
  | [d1, d2] => { results := [.lit (.bool true)], args := [d1, d2] }
  | _ => none }
def fnExactIsNetworkRow : OpenClaim := { program := "ytodmkiikcfdklaa", sum := "343f5ad5a79c278d686576bae9e23200bacc381e1d1a40243da0605ca8f2ebb6", func := "loop.example/g00917/laws.FnExactIsNetwork", spec := "fnExactIsNetwork", apart := false }
def FnExactIsNetworkSaid : Prop := fnExactIsNetworkRow.holds Try.pinned (OpenSpec.ofChange fnExactIsNetworkSpec)

/-- ITS FALSE NEIGHBOUR: 'it returns false'. Refute it at one input. -/
def fnExactIsNetworkWrong : ChangeSpec := { name := "fnExactIsNetwork", fn := fun _ => fun
  | [d1, d2] => { results := [.lit (.bool false)], args := [d1, d2] }
  | _ => none }
def FnExactIsNetworkWrongFalsely : Prop := fnExactIsNetworkRow.holds Try.pinned (OpenSpec.ofChange fnExactIsNetworkWrong)

/-- 'laws.FnExactOpenRoads': WHATEVER THE INPUT: true; the input reads as it did. -/
def fnExactOpenRoadsSpec : ChangeSpec := { name := "fnExactOpenRoads", fn := fun _ => fun
  | [d1, d2, d3] => { results := [.lit (.bool true)], args := [d1, d2, d3] }
  | _ => none }
def fnExactOpenRoadsRow : OpenClaim := { program := "ytodmkiikcfdklaa", sum := "343f5ad5a79c278d686576bae9e23200bacc381e1d1a40243da0605ca8f2ebb6", func := "loop.example/g00917/laws.FnExactOpenRoads", spec := "fnExactOpenRoads", unfollowed := true, recurses := true, apart := false }
def FnExactOpenRoadsSaid : Prop := fnExactOpenRoadsRow.holds Try.pinned (OpenSpec.ofChange fnExactOpenRoadsSpec)

/-- ITS FALSE NEIGHBOUR: 'it returns false'. Refute it at one input. -/
def fnExactOpenRoadsWrong : ChangeSpec := { name := "fnExactOpenRoads", fn := fun _ => fun
  | [d1, d2, d3] => { results := [.lit (.bool false)], args := [d1, d2, d3] }
  | _ => none }
def FnExactOpenRoadsWrongFalsely : Prop := fnExactOpenRoadsRow.holds Try.pinned (OpenSpec.ofChange fnExactOpenRoadsWrong)

/-- 'laws.FnExactArrivalsFrom': WHATEVER THE INPUT: true; the input reads as it did. -/
def fnExactArrivalsFromSpec : ChangeSpec := { name := "fnExactArrivalsFrom", fn := fun _ => fun
  | [d1, d2, d3, d4] => { results := [.lit (.bool true)], args := [d1, d2, d3, d4] }
  | _ => none }
def fnExactArrivalsFromRow : OpenClaim := { program := "ytodmkiikcfdklaa", sum := "343f5ad5a79c278d686576bae9e23200bacc381e1d1a40243da0605ca8f2ebb6", func := "loop.example/g00917/laws.FnExactArrivalsFrom", spec := "fnExactArrivalsFrom", unfollowed := true, recurses := true, apart := false }
def FnExactArrivalsFromSaid : Prop := fnExactArrivalsFromRow.holds Try.pinned (OpenSpec.ofChange fnExactArrivalsFromSpec)

/-- ITS FALSE NEIGHBOUR: 'it returns false'. Refute it at one input. -/
def fnExactArrivalsFromWrong : ChangeSpec := { name := "fnExactArrivalsFrom", fn := fun _ => fun
  | [d1, d2, d3, d4] => { results := [.lit (.bool false)], args := [d1, d2, d3, d4] }
  | _ => none }
def FnExactArrivalsFromWrongFalsely : Prop := fnExactArrivalsFromRow.holds Try.pinned (OpenSpec.ofChange fnExactArrivalsFromWrong)

/-- 'laws.FnExactDeparturesTo': WHATEVER THE INPUT: true; the input reads as it did. -/
def fnExactDeparturesToSpec : ChangeSpec := { name := "fnExactDeparturesTo", fn := fun _ => fun
  | [d1, d2, d3] => { results := [.lit (.bool true)], args := [d1, d2, d3] }
  | _ => none }
def fnExactDeparturesToRow : OpenClaim := { program := "ytodmkiikcfdklaa", sum := "343f5ad5a79c278d686576bae9e23200bacc381e1d1a40243da0605ca8f2ebb6", func := "loop.example/g00917/laws.FnExactDeparturesTo", spec := "fnExactDeparturesTo", unfollowed := true, recurses := true, apart := false }
def FnExactDeparturesToSaid : Prop := fnExactDeparturesToRow.holds Try.pinned (OpenSpec.ofChange fnExactDeparturesToSpec)

/-- ITS FALSE NEIGHBOUR: 'it returns false'. Refute it at one input. -/
def fnExactDeparturesToWrong : ChangeSpec := { name := "fnExactDeparturesTo", fn := fun _ => fun
  | [d1, d2, d3] => { results := [.lit (.bool false)], args := [d1, d2, d3] }
  | _ => none }
def FnExactDeparturesToWrongFalsely : Prop := fnExactDeparturesToRow.holds Try.pinned (OpenSpec.ofChange fnExactDeparturesToWrong)

/-- 'laws.FnExactKeyRoads': WHATEVER THE INPUT: true; the input reads as it did. -/
def fnExactKeyRoadsSpec : ChangeSpec := { name := "fnExactKeyRoads", fn := fun _ => fun
  | [d1, d2, d3, d4, d5] => { results := [.lit (.bool true)], args := [d1, d2, d3, d4, d5] }
  | _ => none }
def fnExactKeyRoadsRow : OpenClaim := { program := "ytodmkiikcfdklaa", sum := "343f5ad5a79c278d686576bae9e23200bacc381e1d1a40243da0605ca8f2ebb6", func := "loop.example/g00917/laws.FnExactKeyRoads", spec := "fnExactKeyRoads", unfollowed := true, recurses := true, apart := false }
def FnExactKeyRoadsSaid : Prop := fnExactKeyRoadsRow.holds Try.pinned (OpenSpec.ofChange fnExactKeyRoadsSpec)

/-- ITS FALSE NEIGHBOUR: 'it returns false'. Refute it at one input. -/
def fnExactKeyRoadsWrong : ChangeSpec := { name := "fnExactKeyRoads", fn := fun _ => fun
  | [d1, d2, d3, d4, d5] => { results := [.lit (.bool false)], args := [d1, d2, d3, d4, d5] }
  | _ => none }
def FnExactKeyRoadsWrongFalsely : Prop := fnExactKeyRoadsRow.holds Try.pinned (OpenSpec.ofChange fnExactKeyRoadsWrong)

/-- 'laws.FnExactLastMinuteFor': WHATEVER THE INPUT: true; the input reads as it did. -/
def fnExactLastMinuteForSpec : ChangeSpec := { name := "fnExactLastMinuteFor", fn := fun _ => fun
  | [d1, d2, d3, d4] => { results := [.lit (.bool true)], args := [d1, d2, d3, d4] }
  | _ => none }
def fnExactLastMinuteForRow : OpenClaim := { program := "ytodmkiikcfdklaa", sum := "343f5ad5a79c278d686576bae9e23200bacc381e1d1a40243da0605ca8f2ebb6", func := "loop.example/g00917/laws.FnExactLastMinuteFor", spec := "fnExactLastMinuteFor", unfollowed := true, recurses := true, apart := false }
def FnExactLastMinuteForSaid : Prop := fnExactLastMinuteForRow.holds Try.pinned (OpenSpec.ofChange fnExactLastMinuteForSpec)

/-- ITS FALSE NEIGHBOUR: 'it returns false'. Refute it at one input. -/
def fnExactLastMinuteForWrong : ChangeSpec := { name := "fnExactLastMinuteFor", fn := fun _ => fun
  | [d1, d2, d3, d4] => { results := [.lit (.bool false)], args := [d1, d2, d3, d4] }
  | _ => none }
def FnExactLastMinuteForWrongFalsely : Prop := fnExactLastMinuteForRow.holds Try.pinned (OpenSpec.ofChange fnExactLastMinuteForWrong)

/-- 'laws.FnExactTripTo': WHATEVER THE INPUT: true; the input reads as it did. -/
def fnExactTripToSpec : ChangeSpec := { name := "fnExactTripTo", fn := fun _ => fun
  | [d1, d2, d3, d4, d5] => { results := [.lit (.bool true)], args := [d1, d2, d3, d4, d5] }
  | _ => none }
def fnExactTripToRow : OpenClaim := { program := "ytodmkiikcfdklaa", sum := "343f5ad5a79c278d686576bae9e23200bacc381e1d1a40243da0605ca8f2ebb6", func := "loop.example/g00917/laws.FnExactTripTo", spec := "fnExactTripTo", unfollowed := true, recurses := true, apart := false }
def FnExactTripToSaid : Prop := fnExactTripToRow.holds Try.pinned (OpenSpec.ofChange fnExactTripToSpec)

/-- ITS FALSE NEIGHBOUR: 'it returns false'. Refute it at one input. -/
def fnExactTripToWrong : ChangeSpec := { name := "fnExactTripTo", fn := fun _ => fun
  | [d1, d2, d3, d4, d5] => { results := [.lit (.bool false)], args := [d1, d2, d3, d4, d5] }
  | _ => none }
def FnExactTripToWrongFalsely : Prop := fnExactTripToRow.holds Try.pinned (OpenSpec.ofChange fnExactTripToWrong)

/-- 'laws.FnExactCutOff': WHATEVER THE INPUT: true; the input reads as it did. -/
def fnExactCutOffSpec : ChangeSpec := { name := "fnExactCutOff", fn := fun _ => fun
  | [d1, d2, d3, d4] => { results := [.lit (.bool true)], args := [d1, d2, d3, d4] }
  | _ => none }
def fnExactCutOffRow : OpenClaim := { program := "ytodmkiikcfdklaa", sum := "343f5ad5a79c278d686576bae9e23200bacc381e1d1a40243da0605ca8f2ebb6", func := "loop.example/g00917/laws.FnExactCutOff", spec := "fnExactCutOff", unfollowed := true, recurses := true, apart := false }
def FnExactCutOffSaid : Prop := fnExactCutOffRow.holds Try.pinned (OpenSpec.ofChange fnExactCutOffSpec)

/-- ITS FALSE NEIGHBOUR: 'it returns false'. Refute it at one input. -/
def fnExactCutOffWrong : ChangeSpec := { name := "fnExactCutOff", fn := fun _ => fun
  | [d1, d2, d3, d4] => { results := [.lit (.bool false)], args := [d1, d2, d3, d4] }
  | _ => none }
def FnExactCutOffWrongFalsely : Prop := fnExactCutOffRow.holds Try.pinned (OpenSpec.ofChange fnExactCutOffWrong)

/-- 'laws.FnCutOff': WHATEVER THE INPUT: true; the input reads as it did. -/
def fnCutOffSpec : ChangeSpec := { name := "fnCutOff", fn := fun _ => fun
  | [d] => { results := [.lit (.bool true)], args := [d] }
  | _ => none }
def fnCutOffRow : OpenClaim := { program := "ytodmkiikcfdklaa", sum := "343f5ad5a79c278d686576bae9e23200bacc381e1d1a40243da0605ca8f2ebb6", func := "loop.example/g00917/laws.FnCutOff", spec := "fnCutOff", unfollowed := true, recurses := true, apart := false }
def FnCutOffSaid : Prop := fnCutOffRow.holds Try.pinned (OpenSpec.ofChange fnCutOffSpec)

/-- ITS FALSE NEIGHBOUR: 'it returns false'. Refute it at one input. -/
def fnCutOffWrong : ChangeSpec := { name := "fnCutOff", fn := fun _ => fun
  | [d] => { results := [.lit (.bool false)], args := [d] }
  | _ => none }
def FnCutOffWrongFalsely : Prop := fnCutOffRow.holds Try.pinned (OpenSpec.ofChange fnCutOffWrong)

/- THE SECOND FORM. 'bulk': how many values and letters a reading holds, each counted each time it is reached (what is shared counts as often as it is met; a slice's spare places count too). A statement '..UptoSaid' is the law's where the arguments, and the package variables that the reading takes, are together of bulk at most 1048576: NARROWER than '..Said'. Prove '..Said' where nothing that the law and all that it calls make is longer than what came in: it says more and counts as full. Else prove '..UptoSaid'. A law counts once. -/
mutual
def uptoBulk {H : Type} : DataW H → Nat
  | .lit (.string bytes) => bytes.length + 1
  | .lit _ => 1
  | .nil => 1
  | .ptr d => uptoBulk d + 1
  | .slice elems spare => uptoBulkAll elems + uptoBulkAll spare + 1
  | .agg parts => uptoBulkAll parts + 1
  | .iface _ d => uptoBulk d + 1
  | .map entries => uptoBulkEntries entries + 1
  | .held _ => 1
def uptoBulkAll {H : Type} : List (DataW H) → Nat
  | [] => 0
  | d :: r => uptoBulk d + uptoBulkAll r
def uptoBulkEntries {H : Type} : List (Lit × DataW H) → Nat
  | [] => 0
  | x :: r => uptoBulkEntry x + uptoBulkEntries r
def uptoBulkEntry {H : Type} : Lit × DataW H → Nat
  | (.string bytes, d) => bytes.length + uptoBulk d + 1
  | (_, d) => uptoBulk d + 1
 end
def uptoSmall : (H : Type) → List (DataW H) → Bool := fun _ ds => decide (uptoBulkAll ds ≤ 1048576)
def OpenSpec.upto (s : _root_.Go.ChangeSpec) : _root_.Go.OpenSpec := { _root_.Go.OpenSpec.ofChange s with cond := some uptoSmall }

/-- 'laws.FnRoads', WHERE WHAT IT READS IS OF BULK AT MOST 1048576: true; the input reads as it did. -/
def fnRoadsUptoRow : OpenClaim := { program := "ytodmkiikcfdklaa", sum := "343f5ad5a79c278d686576bae9e23200bacc381e1d1a40243da0605ca8f2ebb6", func := "loop.example/g00917/laws.FnRoads", spec := "fnRoads", unfollowed := true, recurses := true, apart := false, narrowed := true }
def FnRoadsUptoSaid : Prop := fnRoadsUptoRow.holds Try.pinned (OpenSpec.upto fnRoadsSpec)

/-- 'laws.FnExactIsNetwork', WHERE WHAT IT READS IS OF BULK AT MOST 1048576: true; the input reads as it did. -/
def fnExactIsNetworkUptoRow : OpenClaim := { program := "ytodmkiikcfdklaa", sum := "343f5ad5a79c278d686576bae9e23200bacc381e1d1a40243da0605ca8f2ebb6", func := "loop.example/g00917/laws.FnExactIsNetwork", spec := "fnExactIsNetwork", apart := false, narrowed := true }
def FnExactIsNetworkUptoSaid : Prop := fnExactIsNetworkUptoRow.holds Try.pinned (OpenSpec.upto fnExactIsNetworkSpec)

/-- 'laws.FnExactOpenRoads', WHERE WHAT IT READS IS OF BULK AT MOST 1048576: true; the input reads as it did. -/
def fnExactOpenRoadsUptoRow : OpenClaim := { program := "ytodmkiikcfdklaa", sum := "343f5ad5a79c278d686576bae9e23200bacc381e1d1a40243da0605ca8f2ebb6", func := "loop.example/g00917/laws.FnExactOpenRoads", spec := "fnExactOpenRoads", unfollowed := true, recurses := true, apart := false, narrowed := true }
def FnExactOpenRoadsUptoSaid : Prop := fnExactOpenRoadsUptoRow.holds Try.pinned (OpenSpec.upto fnExactOpenRoadsSpec)

/-- 'laws.FnExactArrivalsFrom', WHERE WHAT IT READS IS OF BULK AT MOST 1048576: true; the input reads as it did. -/
def fnExactArrivalsFromUptoRow : OpenClaim := { program := "ytodmkiikcfdklaa", sum := "343f5ad5a79c278d686576bae9e23200bacc381e1d1a40243da0605ca8f2ebb6", func := "loop.example/g00917/laws.FnExactArrivalsFrom", spec := "fnExactArrivalsFrom", unfollowed := true, recurses := true, apart := false, narrowed := true }
def FnExactArrivalsFromUptoSaid : Prop := fnExactArrivalsFromUptoRow.holds Try.pinned (OpenSpec.upto fnExactArrivalsFromSpec)

/-- 'laws.FnExactDeparturesTo', WHERE WHAT IT READS IS OF BULK AT MOST 1048576: true; the input reads as it did. -/
def fnExactDeparturesToUptoRow : OpenClaim := { program := "ytodmkiikcfdklaa", sum := "343f5ad5a79c278d686576bae9e23200bacc381e1d1a40243da0605ca8f2ebb6", func := "loop.example/g00917/laws.FnExactDeparturesTo", spec := "fnExactDeparturesTo", unfollowed := true, recurses := true, apart := false, narrowed := true }
def FnExactDeparturesToUptoSaid : Prop := fnExactDeparturesToUptoRow.holds Try.pinned (OpenSpec.upto fnExactDeparturesToSpec)

/-- 'laws.FnExactKeyRoads', WHERE WHAT IT READS IS OF BULK AT MOST 1048576: true; the input reads as it did. -/
def fnExactKeyRoadsUptoRow : OpenClaim := { program := "ytodmkiikcfdklaa", sum := "343f5ad5a79c278d686576bae9e23200bacc381e1d1a40243da0605ca8f2ebb6", func := "loop.example/g00917/laws.FnExactKeyRoads", spec := "fnExactKeyRoads", unfollowed := true, recurses := true, apart := false, narrowed := true }
def FnExactKeyRoadsUptoSaid : Prop := fnExactKeyRoadsUptoRow.holds Try.pinned (OpenSpec.upto fnExactKeyRoadsSpec)

/-- 'laws.FnExactLastMinuteFor', WHERE WHAT IT READS IS OF BULK AT MOST 1048576: true; the input reads as it did. -/
def fnExactLastMinuteForUptoRow : OpenClaim := { program := "ytodmkiikcfdklaa", sum := "343f5ad5a79c278d686576bae9e23200bacc381e1d1a40243da0605ca8f2ebb6", func := "loop.example/g00917/laws.FnExactLastMinuteFor", spec := "fnExactLastMinuteFor", unfollowed := true, recurses := true, apart := false, narrowed := true }
def FnExactLastMinuteForUptoSaid : Prop := fnExactLastMinuteForUptoRow.holds Try.pinned (OpenSpec.upto fnExactLastMinuteForSpec)

/-- 'laws.FnExactTripTo', WHERE WHAT IT READS IS OF BULK AT MOST 1048576: true; the input reads as it did. -/
def fnExactTripToUptoRow : OpenClaim := { program := "ytodmkiikcfdklaa", sum := "343f5ad5a79c278d686576bae9e23200bacc381e1d1a40243da0605ca8f2ebb6", func := "loop.example/g00917/laws.FnExactTripTo", spec := "fnExactTripTo", unfollowed := true, recurses := true, apart := false, narrowed := true }
def FnExactTripToUptoSaid : Prop := fnExactTripToUptoRow.holds Try.pinned (OpenSpec.upto fnExactTripToSpec)

/-- 'laws.FnExactCutOff', WHERE WHAT IT READS IS OF BULK AT MOST 1048576: true; the input reads as it did. -/
def fnExactCutOffUptoRow : OpenClaim := { program := "ytodmkiikcfdklaa", sum := "343f5ad5a79c278d686576bae9e23200bacc381e1d1a40243da0605ca8f2ebb6", func := "loop.example/g00917/laws.FnExactCutOff", spec := "fnExactCutOff", unfollowed := true, recurses := true, apart := false, narrowed := true }
def FnExactCutOffUptoSaid : Prop := fnExactCutOffUptoRow.holds Try.pinned (OpenSpec.upto fnExactCutOffSpec)

/-- 'laws.FnCutOff', WHERE WHAT IT READS IS OF BULK AT MOST 1048576: true; the input reads as it did. -/
def fnCutOffUptoRow : OpenClaim := { program := "ytodmkiikcfdklaa", sum := "343f5ad5a79c278d686576bae9e23200bacc381e1d1a40243da0605ca8f2ebb6", func := "loop.example/g00917/laws.FnCutOff", spec := "fnCutOff", unfollowed := true, recurses := true, apart := false, narrowed := true }
def FnCutOffUptoSaid : Prop := fnCutOffUptoRow.holds Try.pinned (OpenSpec.upto fnCutOffSpec)

end Rows
end Go.Proofs.Ytodmkiikcfdklaa
