/-
  No cell of these rows narrows 'for every input' (looked for: loops, veiled, ifaces, maps, wideKeys, modest, calm, conditions, laid).
  DERIVED. THE GIVEN ROWS OF THIS SEAT. 3 by the template 'for every input the law returns true; each argument reads behind the call as it read before'; 0 by the template 'total and deterministic' (their statements: YtohgclokecolbaaTotals.lean).
  GIVEN WITH THE SEED: the statements are not yours to turn. If you find one false, say at which input.
  Laid BY PROGRAM, IN A SANDBOX (cutbox-rows.mjs): the forced cells as the released guide's own fill.sh prints them over the translation 631ecbddb33e16dd… (all of the seat's roots in one cut). By AI agents, Wed Nov 11 2026. No macro, syntax, notation, axiom, sorry.
-/
import Derived.Test.YtohgclokecolbaaChecked
import GoSem.Claim
import GoSem.ClaimJoined
import GoSem.ClaimMapViews
import Derived.JoinedTies
import Derived.KernelRfl
namespace Go.Proofs.Ytohgclokecolbaa
/- THE CELL 'sum', in the pinned program and in every row, IS THE sha256 OF THE DUMP (.gsa) THAT YtohgclokecolbaaProg.lean LOADS. Nothing in Lean hashes anything: it is a label: what it is worth is what the hold of that sum in a sandbox is worth. -/
noncomputable def Try.pinned : Pinned := { name := "ytohgclokecolbaa", sum := "631ecbddb33e16dd13a2ed49ad12b8298e753bfcbfd42da1583b4df5e2336a70", checked := Try.checked }
namespace Rows
def none {H : Type} : Left H := { results := [], args := [] }

/-- 'laws.FnExactMayBeOne': WHATEVER THE INPUT: true; the input reads as it did. -/
def fnExactMayBeOneSpec : ChangeSpec := { name := "fnExactMayBeOne", fn := fun _ => fun
  | [d1, d2] => { results := [.lit (.bool true)], args := [d1, d2] }
  | _ => none }
def fnExactMayBeOneRow : OpenClaim := { program := "ytohgclokecolbaa", sum := "631ecbddb33e16dd13a2ed49ad12b8298e753bfcbfd42da1583b4df5e2336a70", func := "loop.example/g00917/laws.FnExactMayBeOne", spec := "fnExactMayBeOne", apart := false }
def FnExactMayBeOneSaid : Prop := fnExactMayBeOneRow.holds Try.pinned (OpenSpec.ofChange fnExactMayBeOneSpec)

/-- ITS FALSE NEIGHBOUR: 'it returns false'. Refute it at one input. -/
def fnExactMayBeOneWrong : ChangeSpec := { name := "fnExactMayBeOne", fn := fun _ => fun
  | [d1, d2] => { results := [.lit (.bool false)], args := [d1, d2] }
  | _ => none }
def FnExactMayBeOneWrongFalsely : Prop := fnExactMayBeOneRow.holds Try.pinned (OpenSpec.ofChange fnExactMayBeOneWrong)

/-- 'laws.FnExactPlaceOfBoth': WHATEVER THE INPUT: true; the input reads as it did. -/
def fnExactPlaceOfBothSpec : ChangeSpec := { name := "fnExactPlaceOfBoth", fn := fun _ => fun
  | [d1, d2] => { results := [.lit (.bool true)], args := [d1, d2] }
  | _ => none }
def fnExactPlaceOfBothRow : OpenClaim := { program := "ytohgclokecolbaa", sum := "631ecbddb33e16dd13a2ed49ad12b8298e753bfcbfd42da1583b4df5e2336a70", func := "loop.example/g00917/laws.FnExactPlaceOfBoth", spec := "fnExactPlaceOfBoth", apart := false }
def FnExactPlaceOfBothSaid : Prop := fnExactPlaceOfBothRow.holds Try.pinned (OpenSpec.ofChange fnExactPlaceOfBothSpec)

/-- ITS FALSE NEIGHBOUR: 'it returns false'. Refute it at one input. -/
def fnExactPlaceOfBothWrong : ChangeSpec := { name := "fnExactPlaceOfBoth", fn := fun _ => fun
  | [d1, d2] => { results := [.lit (.bool false)], args := [d1, d2] }
  | _ => none }
def FnExactPlaceOfBothWrongFalsely : Prop := fnExactPlaceOfBothRow.holds Try.pinned (OpenSpec.ofChange fnExactPlaceOfBothWrong)

/-- 'laws.FnExactBoxOf': WHATEVER THE INPUT: true; the input reads as it did. -/
def fnExactBoxOfSpec : ChangeSpec := { name := "fnExactBoxOf", fn := fun _ => fun
  | [d] => { results := [.lit (.bool true)], args := [d] }
  | _ => none }
def fnExactBoxOfRow : OpenClaim := { program := "ytohgclokecolbaa", sum := "631ecbddb33e16dd13a2ed49ad12b8298e753bfcbfd42da1583b4df5e2336a70", func := "loop.example/g00917/laws.FnExactBoxOf", spec := "fnExactBoxOf", unfollowed := true, recurses := true, apart := false }
def FnExactBoxOfSaid : Prop := fnExactBoxOfRow.holds Try.pinned (OpenSpec.ofChange fnExactBoxOfSpec)

/-- ITS FALSE NEIGHBOUR: 'it returns false'. Refute it at one input. -/
def fnExactBoxOfWrong : ChangeSpec := { name := "fnExactBoxOf", fn := fun _ => fun
  | [d] => { results := [.lit (.bool false)], args := [d] }
  | _ => none }
def FnExactBoxOfWrongFalsely : Prop := fnExactBoxOfRow.holds Try.pinned (OpenSpec.ofChange fnExactBoxOfWrong)

/- THE SECOND FORM. 'bulk': how many values and letters a reading holds, each counted each time it is reached (what is shared counts as often as it is met; a slice's spare places count too). A statement '..UptoSaid' is the law's where the arguments, and the package variables that the reading takes, are together of bulk at most 1048576: NARROWER than '..Said'. Prove '..Said' where nothing that the law and all that it calls make is longer than what came in: it says more and counts as full. Else prove '..UptoSaid'. A law counts once. -/
mutual
def uptoBulk {H : Type} : DataW H → Nat
  | .lit (.string bytes) => bytes.length + 1
  | .lit _ => 1
  | .nil => 1
  | .ptr d => uptoBulk d + 1
  | .slice elems spare => uptoBulkAll elems + uptoBulkAll spare + 1
  | .agg parts => uptoBulkAll parts + 1
  | .iface _ d => uptoBulk d + 1
  | .map entries => uptoBulkEntries entries + 1
  | .held _ => 1
def uptoBulkAll {H : Type} : List (DataW H) → Nat
  | [] => 0
  | d :: r => uptoBulk d + uptoBulkAll r
def uptoBulkEntries {H : Type} : List (Lit × DataW H) → Nat
  | [] => 0
  | x :: r => uptoBulkEntry x + uptoBulkEntries r
def uptoBulkEntry {H : Type} : Lit × DataW H → Nat
  | (.string bytes, d) => bytes.length + uptoBulk d + 1
  | (_, d) => uptoBulk d + 1
 end
def uptoSmall : (H : Type) → List (DataW H) → Bool := fun _ ds => decide (uptoBulkAll ds ≤ 1048576)
def OpenSpec.upto (s : _root_.Go.ChangeSpec) : _root_.Go.OpenSpec := { _root_.Go.OpenSpec.ofChange s with cond := some uptoSmall }

/-- 'laws.FnExactMayBeOne', WHERE WHAT IT READS IS OF BULK AT MOST 1048576: true; the input reads as it did. -/
def fnExactMayBeOneUptoRow : OpenClaim := { program := "ytohgclokecolbaa", sum := "631ecbddb33e16dd13a2ed49ad12b8298e753bfcbfd42da1583b4df5e2336a70", func := "loop.example/g00917/laws.FnExactMayBeOne", spec := "fnExactMayBeOne", apart := false, narrowed := true }
def FnExactMayBeOneUptoSaid : Prop := fnExactMayBeOneUptoRow.holds Try.pinned (OpenSpec.upto fnExactMayBeOneSpec)

/-- 'laws.FnExactPlaceOfBoth', WHERE WHAT IT READS IS OF BULK AT MOST 1048576: true; the input reads as it did. -/
def fnExactPlaceOfBothUptoRow : OpenClaim := { program := "ytohgclokecolbaa", sum := "631ecbddb33e16dd13a2ed49ad12b8298e753bfcbfd42da1583b4df5e2336a70", func := "loop.example/g00917/laws.FnExactPlaceOfBoth", spec := "fnExactPlaceOfBoth", apart := false, narrowed := true }
def FnExactPlaceOfBothUptoSaid : Prop := fnExactPlaceOfBothUptoRow.holds Try.pinned (OpenSpec.upto fnExactPlaceOfBothSpec)

/-- 'laws.FnExactBoxOf', WHERE WHAT IT READS IS OF BULK AT MOST 1048576: true; the input reads as it did. -/
def fnExactBoxOfUptoRow : OpenClaim := { program := "ytohgclokecolbaa", sum := "631ecbddb33e16dd13a2ed49ad12b8298e753bfcbfd42da1583b4df5e2336a70", func := "loop.example/g00917/laws.FnExactBoxOf", spec := "fnExactBoxOf", unfollowed := true, recurses := true, apart := false, narrowed := true }
def FnExactBoxOfUptoSaid : Prop := fnExactBoxOfUptoRow.holds Try.pinned (OpenSpec.upto fnExactBoxOfSpec)

end Rows
end Go.Proofs.Ytohgclokecolbaa
