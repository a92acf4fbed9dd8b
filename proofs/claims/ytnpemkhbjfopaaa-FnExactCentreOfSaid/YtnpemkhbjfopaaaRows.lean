/-
  No cell of these rows narrows 'for every input' (looked for: loops, veiled, ifaces, maps, wideKeys, modest, calm, conditions, laid).
  DERIVED. THE GIVEN ROWS OF THIS SEAT. 10 by the template 'for every input the law returns true; each argument reads behind the call as it read before'; 0 by the template 'total and deterministic' (their statements: YtnpemkhbjfopaaaTotals.lean).
  GIVEN WITH THE SEED: the statements are not yours to turn. If you find one false, say at which input.
  Laid BY PROGRAM, IN A SANDBOX (cutbox-rows.mjs): the forced cells as the released guide's own fill.sh prints them over the translation 14fdfce8c3e322b5… (all of the seat's roots in one cut). By AI agents, Wed Nov 11 2026. No macro, syntax, notation, axiom, sorry.
-/
import Derived.Test.YtnpemkhbjfopaaaChecked
import GoSem.Claim
import GoSem.ClaimJoined
import GoSem.ClaimMapViews
import Derived.JoinedTies
import Derived.KernelRfl
namespace Go.Proofs.Ytnpemkhbjfopaaa
/- THE CELL 'sum', in the pinned program and in every row, IS THE sha256 OF THE DUMP (.gsa) THAT YtnpemkhbjfopaaaProg.lean LOADS. Nothing in Lean hashes anything: it is a label: what it is worth is what the hold of that sum in a sandbox is worth. -/
noncomputable def Try.pinned : Pinned := { name := "ytnpemkhbjfopaaa", sum := "14fdfce8c3e322b509bf621f57356630bd6459f4cbea632f7af6121232d99773", checked := Try.checked }
namespace Rows
def none {H : Type} : Left H := { results := [], args := [] }

/-- 'laws.FnExactIsHotspot': WHATEVER THE INPUT: true; the input reads as it did. -/
def fnExactIsHotspotSpec : ChangeSpec := { name := "fnExactIsHotspot", fn := fun _ => fun
  | [d] => { results := [.lit (.bool true)], args := [d] }
  | _ => none }
def fnExactIsHotspotRow : OpenClaim := { program := "ytnpemkhbjfopaaa", sum := "14fdfce8c3e322b509bf621f57356630bd6459f4cbea632f7af6121232d99773", func := "loop.example/g00917/laws.FnExactIsHotspot", spec := "fnExactIsHotspot", apart := false }
def FnExactIsHotspotSaid : Prop := fnExactIsHotspotRow.holds Try.pinned (OpenSpec.ofChange fnExactIsHotspotSpec)

/-- ITS FALSE NEIGHBOUR: 'it returns false'. Refute it at one input. -/
def fnExactIsHotspotWrong : ChangeSpec := { name := "fnExactIsHotspot", fn := fun _ => fun
  | [d] => { results := [.lit (.bool false)], args := [d] }
  | _ => none }
def FnExactIsHotspotWrongFalsely : Prop := fnExactIsHotspotRow.holds Try.pinned (OpenSpec.ofChange fnExactIsHotspotWrong)

/-- 'laws.FnExactSpreadBetween': WHATEVER THE INPUT: true; the input reads as it did. -/
def fnExactSpreadBetweenSpec : ChangeSpec := { name := "fnExactSpreadBetween", fn := fun _ => fun
  | [d1, d2] => { results := [.lit (.bool true)], args := [d1, d2] }
  | _ => none }
def fnExactSpreadBetweenRow : OpenClaim := { program := "ytnpemkhbjfopaaa", sum := "14fdfce8c3e322b509bf621f57356630bd6459f4cbea632f7af6121232d99773", func := "loop.example/g00917/laws.FnExactSpreadBetween", spec := "fnExactSpreadBetween", apart := false }
def FnExactSpreadBetweenSaid : Prop := fnExactSpreadBetweenRow.holds Try.pinned (OpenSpec.ofChange fnExactSpreadBetweenSpec)

/-- ITS FALSE NEIGHBOUR: 'it returns false'. Refute it at one input. -/
def fnExactSpreadBetweenWrong : ChangeSpec := { name := "fnExactSpreadBetween", fn := fun _ => fun
  | [d1, d2] => { results := [.lit (.bool false)], args := [d1, d2] }
  | _ => none }
def FnExactSpreadBetweenWrongFalsely : Prop := fnExactSpreadBetweenRow.holds Try.pinned (OpenSpec.ofChange fnExactSpreadBetweenWrong)

/-- 'laws.FnExactMayBeOne': WHATEVER THE INPUT: true; the input reads as it did. -/
def fnExactMayBeOneSpec : ChangeSpec := { name := "fnExactMayBeOne", fn := fun _ => fun
  | [d1, d2] => { results := [.lit (.bool true)], args := [d1, d2] }
  | _ => none }
def fnExactMayBeOneRow : OpenClaim := { program := "ytnpemkhbjfopaaa", sum := "14fdfce8c3e322b509bf621f57356630bd6459f4cbea632f7af6121232d99773", func := "loop.example/g00917/laws.FnExactMayBeOne", spec := "fnExactMayBeOne", apart := false }
def FnExactMayBeOneSaid : Prop := fnExactMayBeOneRow.holds Try.pinned (OpenSpec.ofChange fnExactMayBeOneSpec)

/-- ITS FALSE NEIGHBOUR: 'it returns false'. Refute it at one input. -/
def fnExactMayBeOneWrong : ChangeSpec := { name := "fnExactMayBeOne", fn := fun _ => fun
  | [d1, d2] => { results := [.lit (.bool false)], args := [d1, d2] }
  | _ => none }
def FnExactMayBeOneWrongFalsely : Prop := fnExactMayBeOneRow.holds Try.pinned (OpenSpec.ofChange fnExactMayBeOneWrong)

/-- 'laws.FnExactAreHotspots': WHATEVER THE INPUT: true; the input reads as it did. -/
def fnExactAreHotspotsSpec : ChangeSpec := { name := "fnExactAreHotspots", fn := fun _ => fun
  | [d] => { results := [.lit (.bool true)], args := [d] }
  | _ => none }
def fnExactAreHotspotsRow : OpenClaim := { program := "ytnpemkhbjfopaaa", sum := "14fdfce8c3e322b509bf621f57356630bd6459f4cbea632f7af6121232d99773", func := "loop.example/g00917/laws.FnExactAreHotspots", spec := "fnExactAreHotspots", unfollowed := true, recurses := true, apart := false }
def FnExactAreHotspotsSaid : Prop := fnExactAreHotspotsRow.holds Try.pinned (OpenSpec.ofChange fnExactAreHotspotsSpec)

/-- ITS FALSE NEIGHBOUR: 'it returns false'. Refute it at one input. -/
def fnExactAreHotspotsWrong : ChangeSpec := { name := "fnExactAreHotspots", fn := fun _ => fun
  | [d] => { results := [.lit (.bool false)], args := [d] }
  | _ => none }
def FnExactAreHotspotsWrongFalsely : Prop := fnExactAreHotspotsRow.holds Try.pinned (OpenSpec.ofChange fnExactAreHotspotsWrong)

/-- 'laws.FnExactPlaceOfBoth': WHATEVER THE INPUT: true; the input reads as it did. -/
def fnExactPlaceOfBothSpec : ChangeSpec := { name := "fnExactPlaceOfBoth", fn := fun _ => fun
  | [d1, d2] => { results := [.lit (.bool true)], args := [d1, d2] }
  | _ => none }
def fnExactPlaceOfBothRow : OpenClaim := { program := "ytnpemkhbjfopaaa", sum := "14fdfce8c3e322b509bf621f57356630bd6459f4cbea632f7af6121232d99773", func := "loop.example/g00917/laws.FnExactPlaceOfBoth", spec := "fnExactPlaceOfBoth", apart := false }
def FnExactPlaceOfBothSaid : Prop := fnExactPlaceOfBothRow.holds Try.pinned (OpenSpec.ofChange fnExactPlaceOfBothSpec)

/-- ITS FALSE NEIGHBOUR: 'it returns false'. Refute it at one input. -/
def fnExactPlaceOfBothWrong : ChangeSpec := { name := "fnExactPlaceOfBoth", fn := fun _ => fun
  | [d1, d2] => { results := [.lit (.bool false)], args := [d1, d2] }
  | _ => none }
def FnExactPlaceOfBothWrongFalsely : Prop := fnExactPlaceOfBothRow.holds Try.pinned (OpenSpec.ofChange fnExactPlaceOfBothWrong)

/-- 'laws.FnExactCentreOf': WHATEVER THE INPUT: true; the input reads as it did. -/
def fnExactCentreOfSpec : ChangeSpec := { name := "fnExactCentreOf", fn := fun _ => fun
  | [d] => { results := [.lit (.bool true)], args := [d] }
  | _ => none }
def fnExactCentreOfRow : OpenClaim := { program := "ytnpemkhbjfopaaa", sum := "14fdfce8c3e322b509bf621f57356630bd6459f4cbea632f7af6121232d99773", func := "loop.example/g00917/laws.FnExactCentreOf", spec := "fnExactCentreOf", unfollowed := true, recurses := true, apart := false }
def FnExactCentreOfSaid : Prop := fnExactCentreOfRow.holds Try.pinned (OpenSpec.ofChange fnExactCentreOfSpec)

/-- ITS FALSE NEIGHBOUR: 'it returns false'. Refute it at one input. -/
def fnExactCentreOfWrong : ChangeSpec := { name := "fnExactCentreOf", fn := fun _ => fun
  | [d] => { results := [.lit (.bool false)], args := [d] }
  | _ => none }
def FnExactCentreOfWrongFalsely : Prop := fnExactCentreOfRow.holds Try.pinned (OpenSpec.ofChange fnExactCentreOfWrong)

/-- 'laws.FnExactBoxOf': WHATEVER THE INPUT: true; the input reads as it did. -/
def fnExactBoxOfSpec : ChangeSpec := { name := "fnExactBoxOf", fn := fun _ => fun
  | [d] => { results := [.lit (.bool true)], args := [d] }
  | _ => none }
def fnExactBoxOfRow : OpenClaim := { program := "ytnpemkhbjfopaaa", sum := "14fdfce8c3e322b509bf621f57356630bd6459f4cbea632f7af6121232d99773", func := "loop.example/g00917/laws.FnExactBoxOf", spec := "fnExactBoxOf", unfollowed := true, recurses := true, apart := false }
def FnExactBoxOfSaid : Prop := fnExactBoxOfRow.holds Try.pinned (OpenSpec.ofChange fnExactBoxOfSpec)

/-- ITS FALSE NEIGHBOUR: 'it returns false'. Refute it at one input. -/
def fnExactBoxOfWrong : ChangeSpec := { name := "fnExactBoxOf", fn := fun _ => fun
  | [d] => { results := [.lit (.bool false)], args := [d] }
  | _ => none }
def FnExactBoxOfWrongFalsely : Prop := fnExactBoxOfRow.holds Try.pinned (OpenSpec.ofChange fnExactBoxOfWrong)

/-- 'laws.FnExactLatestSpots': WHATEVER THE INPUT: true; the input reads as it did. -/
def fnExactLatestSpotsSpec : ChangeSpec := { name := "fnExactLatestSpots", fn := fun _ => fun
  | [d1, d2] => { results := [.lit (.bool true)], args := [d1, d2] }
  | _ => none }
def fnExactLatestSpotsRow : OpenClaim := { program := "ytnpemkhbjfopaaa", sum := "14fdfce8c3e322b509bf621f57356630bd6459f4cbea632f7af6121232d99773", func := "loop.example/g00917/laws.FnExactLatestSpots", spec := "fnExactLatestSpots", unfollowed := true, recurses := true, apart := false }
def FnExactLatestSpotsSaid : Prop := fnExactLatestSpotsRow.holds Try.pinned (OpenSpec.ofChange fnExactLatestSpotsSpec)

/-- ITS FALSE NEIGHBOUR: 'it returns false'. Refute it at one input. -/
def fnExactLatestSpotsWrong : ChangeSpec := { name := "fnExactLatestSpots", fn := fun _ => fun
  | [d1, d2] => { results := [.lit (.bool false)], args := [d1, d2] }
  | _ => none }
def FnExactLatestSpotsWrongFalsely : Prop := fnExactLatestSpotsRow.holds Try.pinned (OpenSpec.ofChange fnExactLatestSpotsWrong)

/-- 'laws.FnExactClustersOf': WHATEVER THE INPUT: true; the input reads as it did. -/
def fnExactClustersOfSpec : ChangeSpec := { name := "fnExactClustersOf", fn := fun _ => fun
  | [d] => { results := [.lit (.bool true)], args := [d] }
  | _ => none }
def fnExactClustersOfRow : OpenClaim := { program := "ytnpemkhbjfopaaa", sum := "14fdfce8c3e322b509bf621f57356630bd6459f4cbea632f7af6121232d99773", func := "loop.example/g00917/laws.FnExactClustersOf", spec := "fnExactClustersOf", unfollowed := true, recurses := true, apart := false }
def FnExactClustersOfSaid : Prop := fnExactClustersOfRow.holds Try.pinned (OpenSpec.ofChange fnExactClustersOfSpec)

/-- ITS FALSE NEIGHBOUR: 'it returns false'. Refute it at one input. -/
def fnExactClustersOfWrong : ChangeSpec := { name := "fnExactClustersOf", fn := fun _ => fun
  | [d] => { results := [.lit (.bool false)], args := [d] }
  | _ => none }
def FnExactClustersOfWrongFalsely : Prop := fnExactClustersOfRow.holds Try.pinned (OpenSpec.ofChange fnExactClustersOfWrong)

/-- 'laws.FnClusters': WHATEVER THE INPUT: true; the input reads as it did. -/
def fnClustersSpec : ChangeSpec := { name := "fnClusters", fn := fun _ => fun
  | [d] => { results := [.lit (.bool true)], args := [d] }
  | _ => none }
def fnClustersRow : OpenClaim := { program := "ytnpemkhbjfopaaa", sum := "14fdfce8c3e322b509bf621f57356630bd6459f4cbea632f7af6121232d99773", func := "loop.example/g00917/laws.FnClusters", spec := "fnClusters", unfollowed := true, recurses := true, apart := false }
def FnClustersSaid : Prop := fnClustersRow.holds Try.pinned (OpenSpec.ofChange fnClustersSpec)

/-- ITS FALSE NEIGHBOUR: 'it returns false'. Refute it at one input. -/
def fnClustersWrong : ChangeSpec := { name := "fnClusters", fn := fun _ => fun
  | [d] => { results := [.lit (.bool false)], args := [d] }
  | _ => none }
def FnClustersWrongFalsely : Prop := fnClustersRow.holds Try.pinned (OpenSpec.ofChange fnClustersWrong)

/- THE SECOND FORM. 'bulk': how many values and letters a reading holds, each counted each time it is reached (what is shared counts as often as it is met; a slice's spare places count too). A statement '..UptoSaid' is the law's where the arguments, and the package variables that the reading takes, are together of bulk at most 1048576: NARROWER than '..Said'. Prove '..Said' where nothing that the law and all that it calls make is longer than what came in: it says more and counts as full. Else prove '..UptoSaid'. A law counts once. -/
mutual
def uptoBulk {H : Type} : DataW H → Nat
  | .lit (.string bytes) => bytes.length + 1
  | .lit _ => 1
  | .nil => 1
  | .ptr d => uptoBulk d + 1
  | .slice elems spare => uptoBulkAll elems + uptoBulkAll spare + 1
  | .agg parts => uptoBulkAll parts + 1
  | .iface _ d => uptoBulk d + 1
  | .map entries => uptoBulkEntries entries + 1
  | .held _ => 1
def uptoBulkAll {H : Type} : List (DataW H) → Nat
  | [] => 0
  | d :: r => uptoBulk d + uptoBulkAll r
def uptoBulkEntries {H : Type} : List (Lit × DataW H) → Nat
  | [] => 0
  | x :: r => uptoBulkEntry x + uptoBulkEntries r
def uptoBulkEntry {H : Type} : Lit × DataW H → Nat
  | (.string bytes, d) => bytes.length + uptoBulk d + 1
  | (_, d) => uptoBulk d + 1
 end
def uptoSmall : (H : Type) → List (DataW H) → Bool := fun _ ds => decide (uptoBulkAll ds ≤ 1048576)
def OpenSpec.upto (s : _root_.Go.ChangeSpec) : _root_.Go.OpenSpec := { _root_.Go.OpenSpec.ofChange s with cond := some uptoSmall }

/-- 'laws.FnExactIsHotspot', WHERE WHAT IT READS IS OF BULK AT MOST 1048576: true; the input reads as it did. -/
def fnExactIsHotspotUptoRow : OpenClaim := { program := "ytnpemkhbjfopaaa", sum := "14fdfce8c3e322b509bf621f57356630bd6459f4cbea632f7af6121232d99773", func := "loop.example/g00917/laws.FnExactIsHotspot", spec := "fnExactIsHotspot", apart := false, narrowed := true }
def FnExactIsHotspotUptoSaid : Prop := fnExactIsHotspotUptoRow.holds Try.pinned (OpenSpec.upto fnExactIsHotspotSpec)

/-- 'laws.FnExactSpreadBetween', WHERE WHAT IT READS IS OF BULK AT MOST 1048576: true; the input reads as it did. -/
def fnExactSpreadBetweenUptoRow : OpenClaim := { program := "ytnpemkhbjfopaaa", sum := "14fdfce8c3e322b509bf621f57356630bd6459f4cbea632f7af6121232d99773", func := "loop.example/g00917/laws.FnExactSpreadBetween", spec := "fnExactSpreadBetween", apart := false, narrowed := true }
def FnExactSpreadBetweenUptoSaid : Prop := fnExactSpreadBetweenUptoRow.holds Try.pinned (OpenSpec.upto fnExactSpreadBetweenSpec)

/-- 'laws.FnExactMayBeOne', WHERE WHAT IT READS IS OF BULK AT MOST 1048576: true; the input reads as it did. -/
def fnExactMayBeOneUptoRow : OpenClaim := { program := "ytnpemkhbjfopaaa", sum := "14fdfce8c3e322b509bf621f57356630bd6459f4cbea632f7af6121232d99773", func := "loop.example/g00917/laws.FnExactMayBeOne", spec := "fnExactMayBeOne", apart := false, narrowed := true }
def FnExactMayBeOneUptoSaid : Prop := fnExactMayBeOneUptoRow.holds Try.pinned (OpenSpec.upto fnExactMayBeOneSpec)

/-- 'laws.FnExactAreHotspots', WHERE WHAT IT READS IS OF BULK AT MOST 1048576: true; the input reads as it did. -/
def fnExactAreHotspotsUptoRow : OpenClaim := { program := "ytnpemkhbjfopaaa", sum := "14fdfce8c3e322b509bf621f57356630bd6459f4cbea632f7af6121232d99773", func := "loop.example/g00917/laws.FnExactAreHotspots", spec := "fnExactAreHotspots", unfollowed := true, recurses := true, apart := false, narrowed := true }
def FnExactAreHotspotsUptoSaid : Prop := fnExactAreHotspotsUptoRow.holds Try.pinned (OpenSpec.upto fnExactAreHotspotsSpec)

/-- 'laws.FnExactPlaceOfBoth', WHERE WHAT IT READS IS OF BULK AT MOST 1048576: true; the input reads as it did. -/
def fnExactPlaceOfBothUptoRow : OpenClaim := { program := "ytnpemkhbjfopaaa", sum := "14fdfce8c3e322b509bf621f57356630bd6459f4cbea632f7af6121232d99773", func := "loop.example/g00917/laws.FnExactPlaceOfBoth", spec := "fnExactPlaceOfBoth", apart := false, narrowed := true }
def FnExactPlaceOfBothUptoSaid : Prop := fnExactPlaceOfBothUptoRow.holds Try.pinned (OpenSpec.upto fnExactPlaceOfBothSpec)

/-- 'laws.FnExactCentreOf', WHERE WHAT IT READS IS OF BULK AT MOST 1048576: true; the input reads as it did. -/
def fnExactCentreOfUptoRow : OpenClaim := { program := "ytnpemkhbjfopaaa", sum := "14fdfce8c3e322b509bf621f57356630bd6459f4cbea632f7af6121232d99773", func := "loop.example/g00917/laws.FnExactCentreOf", spec := "fnExactCentreOf", unfollowed := true, recurses := true, apart := false, narrowed := true }
def FnExactCentreOfUptoSaid : Prop := fnExactCentreOfUptoRow.holds Try.pinned (OpenSpec.upto fnExactCentreOfSpec)

/-- 'laws.FnExactBoxOf', WHERE WHAT IT READS IS OF BULK AT MOST 1048576: true; the input reads as it did. -/
def fnExactBoxOfUptoRow : OpenClaim := { program := "ytnpemkhbjfopaaa", sum := "14fdfce8c3e322b509bf621f57356630bd6459f4cbea632f7af6121232d99773", func := "loop.example/g00917/laws.FnExactBoxOf", spec := "fnExactBoxOf", unfollowed := true, recurses := true, apart := false, narrowed := true }
def FnExactBoxOfUptoSaid : Prop := fnExactBoxOfUptoRow.holds Try.pinned (OpenSpec.upto fnExactBoxOfSpec)

/-- 'laws.FnExactLatestSpots', WHERE WHAT IT READS IS OF BULK AT MOST 1048576: true; the input reads as it did. -/
def fnExactLatestSpotsUptoRow : OpenClaim := { program := "ytnpemkhbjfopaaa", sum := "14fdfce8c3e322b509bf621f57356630bd6459f4cbea632f7af6121232d99773", func := "loop.example/g00917/laws.FnExactLatestSpots", spec := "fnExactLatestSpots", unfollowed := true, recurses := true, apart := false, narrowed := true }
def FnExactLatestSpotsUptoSaid : Prop := fnExactLatestSpotsUptoRow.holds Try.pinned (OpenSpec.upto fnExactLatestSpotsSpec)

/-- 'laws.FnExactClustersOf', WHERE WHAT IT READS IS OF BULK AT MOST 1048576: true; the input reads as it did. -/
def fnExactClustersOfUptoRow : OpenClaim := { program := "ytnpemkhbjfopaaa", sum := "14fdfce8c3e322b509bf621f57356630bd6459f4cbea632f7af6121232d99773", func := "loop.example/g00917/laws.FnExactClustersOf", spec := "fnExactClustersOf", unfollowed := true, recurses := true, apart := false, narrowed := true }
def FnExactClustersOfUptoSaid : Prop := fnExactClustersOfUptoRow.holds Try.pinned (OpenSpec.upto fnExactClustersOfSpec)

/-- 'laws.FnClusters', WHERE WHAT IT READS IS OF BULK AT MOST 1048576: true; the input reads as it did. -/
def fnClustersUptoRow : OpenClaim := { program := "ytnpemkhbjfopaaa", sum := "14fdfce8c3e322b509bf621f57356630bd6459f4cbea632f7af6121232d99773", func := "loop.example/g00917/laws.FnClusters", spec := "fnClusters", unfollowed := true, recurses := true, apart := false, narrowed := true }
def FnClustersUptoSaid : Prop := fnClustersUptoRow.holds Try.pinned (OpenSpec.upto fnClustersSpec)

end Rows
end Go.Proofs.Ytnpemkhbjfopaaa
