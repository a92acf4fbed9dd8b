/-
  No cell of these rows narrows 'for every input' (looked for: loops, veiled, ifaces, maps, wideKeys, modest, calm, conditions, laid).
  DERIVED. THE GIVEN ROWS OF THIS SEAT. 11 by the template 'for every input the law returns true; each argument reads behind the call as it read before'; 0 by the template 'total and deterministic' (their statements: YtpnddpaijfinkaaTotals.lean).
  GIVEN WITH THE SEED: the statements are not yours to turn. If you find one false, say at which input.
  Laid BY PROGRAM, IN A SANDBOX (cutbox-rows.mjs): the forced cells as the released guide's own fill.sh prints them over the translation 8f476b5f582cbab9… (all of the seat's roots in one cut). By AI agents, Wed Nov 11 2026. No macro, syntax, notation, axiom, sorry.
-/
import Derived.Test.YtpnddpaijfinkaaChecked
import GoSem.Claim
import GoSem.ClaimJoined
import GoSem.ClaimMapViews
import Derived.JoinedTies
import Derived.KernelRfl
namespace Go.Proofs.Ytpnddpaijfinkaa
/- THE CELL 'sum', in the pinned program and in every row, IS THE sha256 OF THE DUMP (.gsa) THAT YtpnddpaijfinkaaProg.lean LOADS. Nothing in Lean hashes anything: it is a label: what it is worth is what the hold of that sum in a sandbox is worth. -/
noncomputable def Try.pinned : Pinned := { name := "ytpnddpaijfinkaa", sum := "8f476b5f582cbab9eacd22d07119751739b59a6b2d7a6daf8ed74e3903ba68ea", checked := Try.checked }
namespace Rows
def none {H : Type} : Left H := { results := [], args := [] }

/-- 'laws.FnExactIsCrew': WHATEVER THE INPUT: true; the input reads as it did. -/
def fnExactIsCrewSpec : ChangeSpec := { name := "fnExactIsCrew", fn := fun _ => fun
  | [d] => { results := [.lit (.bool true)], args := [d] }
  | _ => none }
def fnExactIsCrewRow : OpenClaim := { program := "ytpnddpaijfinkaa", sum := "8f476b5f582cbab9eacd22d07119751739b59a6b2d7a6daf8ed74e3903ba68ea", func := "loop.example/g00917/laws.FnExactIsCrew", spec := "fnExactIsCrew", apart := false }
def FnExactIsCrewSaid : Prop := fnExactIsCrewRow.holds Try.pinned (OpenSpec.ofChange fnExactIsCrewSpec)

/-- ITS FALSE NEIGHBOUR: 'it returns false'. Refute it at one input. -/
def fnExactIsCrewWrong : ChangeSpec := { name := "fnExactIsCrew", fn := fun _ => fun
  | [d] => { results := [.lit (.bool false)], args := [d] }
  | _ => none }
def FnExactIsCrewWrongFalsely : Prop := fnExactIsCrewRow.holds Try.pinned (OpenSpec.ofChange fnExactIsCrewWrong)

/-- 'laws.FnExactBuiltBy': WHATEVER THE INPUT: true; the input reads as it did. -/
def fnExactBuiltBySpec : ChangeSpec := { name := "fnExactBuiltBy", fn := fun _ => fun
  | [d1, d2] => { results := [.lit (.bool true)], args := [d1, d2] }
  | _ => none }
def fnExactBuiltByRow : OpenClaim := { program := "ytpnddpaijfinkaa", sum := "8f476b5f582cbab9eacd22d07119751739b59a6b2d7a6daf8ed74e3903ba68ea", func := "loop.example/g00917/laws.FnExactBuiltBy", spec := "fnExactBuiltBy", apart := false }
def FnExactBuiltBySaid : Prop := fnExactBuiltByRow.holds Try.pinned (OpenSpec.ofChange fnExactBuiltBySpec)

/-- ITS FALSE NEIGHBOUR: 'it returns false'. Refute it at one input. -/
def fnExactBuiltByWrong : ChangeSpec := { name := "fnExactBuiltBy", fn := fun _ => fun
  | [d1, d2] => { results := [.lit (.bool false)], args := [d1, d2] }
  | _ => none }
def FnExactBuiltByWrongFalsely : Prop := fnExactBuiltByRow.holds Try.pinned (OpenSpec.ofChange fnExactBuiltByWrong)

/-- 'laws.FnExactShiftMetres': WHATEVER THE INPUT: true; the input reads as it did. -/
def fnExactShiftMetresSpec : ChangeSpec := { name := "fnExactShiftMetres", fn := fun _ => fun
  | [d] => { results := [.lit (.bool true)], args := [d] }
  | _ => none }
def fnExactShiftMetresRow : OpenClaim := { program := "ytpnddpaijfinkaa", sum := "8f476b5f582cbab9eacd22d07119751739b59a6b2d7a6daf8ed74e3903ba68ea", func := "loop.example/g00917/laws.FnExactShiftMetres", spec := "fnExactShiftMetres", apart := false }
def FnExactShiftMetresSaid : Prop := fnExactShiftMetresRow.holds Try.pinned (OpenSpec.ofChange fnExactShiftMetresSpec)

/-- ITS FALSE NEIGHBOUR: 'it returns false'. Refute it at one input. -/
def fnExactShiftMetresWrong : ChangeSpec := { name := "fnExactShiftMetres", fn := fun _ => fun
  | [d] => { results := [.lit (.bool false)], args := [d] }
  | _ => none }
def FnExactShiftMetresWrongFalsely : Prop := fnExactShiftMetresRow.holds Try.pinned (OpenSpec.ofChange fnExactShiftMetresWrong)

/-- 'laws.FnExactHoursFor': WHATEVER THE INPUT: true; the input reads as it did. -/
def fnExactHoursForSpec : ChangeSpec := { name := "fnExactHoursFor", fn := fun _ => fun
  | [d1, d2] => { results := [.lit (.bool true)], args := [d1, d2] }
  | _ => none }
def fnExactHoursForRow : OpenClaim := { program := "ytpnddpaijfinkaa", sum := "8f476b5f582cbab9eacd22d07119751739b59a6b2d7a6daf8ed74e3903ba68ea", func := "loop.example/g00917/laws.FnExactHoursFor", spec := "fnExactHoursFor", apart := false }
def FnExactHoursForSaid : Prop := fnExactHoursForRow.holds Try.pinned (OpenSpec.ofChange fnExactHoursForSpec)

/-- ITS FALSE NEIGHBOUR: 'it returns false'. Refute it at one input. -/
def fnExactHoursForWrong : ChangeSpec := { name := "fnExactHoursFor", fn := fun _ => fun
  | [d1, d2] => { results := [.lit (.bool false)], args := [d1, d2] }
  | _ => none }
def FnExactHoursForWrongFalsely : Prop := fnExactHoursForRow.holds Try.pinned (OpenSpec.ofChange fnExactHoursForWrong)

/-- 'laws.FnExactTogetherBy': WHATEVER THE INPUT: true; the input reads as it did. -/
def fnExactTogetherBySpec : ChangeSpec := { name := "fnExactTogetherBy", fn := fun _ => fun
  | [d1, d2] => { results := [.lit (.bool true)], args := [d1, d2] }
  | _ => none }
def fnExactTogetherByRow : OpenClaim := { program := "ytpnddpaijfinkaa", sum := "8f476b5f582cbab9eacd22d07119751739b59a6b2d7a6daf8ed74e3903ba68ea", func := "loop.example/g00917/laws.FnExactTogetherBy", spec := "fnExactTogetherBy", unfollowed := true, recurses := true, apart := false }
def FnExactTogetherBySaid : Prop := fnExactTogetherByRow.holds Try.pinned (OpenSpec.ofChange fnExactTogetherBySpec)

/-- ITS FALSE NEIGHBOUR: 'it returns false'. Refute it at one input. -/
def fnExactTogetherByWrong : ChangeSpec := { name := "fnExactTogetherBy", fn := fun _ => fun
  | [d1, d2] => { results := [.lit (.bool false)], args := [d1, d2] }
  | _ => none }
def FnExactTogetherByWrongFalsely : Prop := fnExactTogetherByRow.holds Try.pinned (OpenSpec.ofChange fnExactTogetherByWrong)

/-- 'laws.FnExactIdleCrews': WHATEVER THE INPUT: true; the input reads as it did. -/
def fnExactIdleCrewsSpec : ChangeSpec := { name := "fnExactIdleCrews", fn := fun _ => fun
  | [d1, d2] => { results := [.lit (.bool true)], args := [d1, d2] }
  | _ => none }
def fnExactIdleCrewsRow : OpenClaim := { program := "ytpnddpaijfinkaa", sum := "8f476b5f582cbab9eacd22d07119751739b59a6b2d7a6daf8ed74e3903ba68ea", func := "loop.example/g00917/laws.FnExactIdleCrews", spec := "fnExactIdleCrews", unfollowed := true, recurses := true, apart := false }
def FnExactIdleCrewsSaid : Prop := fnExactIdleCrewsRow.holds Try.pinned (OpenSpec.ofChange fnExactIdleCrewsSpec)

/-- ITS FALSE NEIGHBOUR: 'it returns false'. Refute it at one input. -/
def fnExactIdleCrewsWrong : ChangeSpec := { name := "fnExactIdleCrews", fn := fun _ => fun
  | [d1, d2] => { results := [.lit (.bool false)], args := [d1, d2] }
  | _ => none }
def FnExactIdleCrewsWrongFalsely : Prop := fnExactIdleCrewsRow.holds Try.pinned (OpenSpec.ofChange fnExactIdleCrewsWrong)

/-- 'laws.FnExactHoursTogether': WHATEVER THE INPUT: true; the input reads as it did. -/
def fnExactHoursTogetherSpec : ChangeSpec := { name := "fnExactHoursTogether", fn := fun _ => fun
  | [d1, d2] => { results := [.lit (.bool true)], args := [d1, d2] }
  | _ => none }
def fnExactHoursTogetherRow : OpenClaim := { program := "ytpnddpaijfinkaa", sum := "8f476b5f582cbab9eacd22d07119751739b59a6b2d7a6daf8ed74e3903ba68ea", func := "loop.example/g00917/laws.FnExactHoursTogether", spec := "fnExactHoursTogether", unfollowed := true, recurses := true, apart := false }
def FnExactHoursTogetherSaid : Prop := fnExactHoursTogetherRow.holds Try.pinned (OpenSpec.ofChange fnExactHoursTogetherSpec)

/-- ITS FALSE NEIGHBOUR: 'it returns false'. Refute it at one input. -/
def fnExactHoursTogetherWrong : ChangeSpec := { name := "fnExactHoursTogether", fn := fun _ => fun
  | [d1, d2] => { results := [.lit (.bool false)], args := [d1, d2] }
  | _ => none }
def FnExactHoursTogetherWrongFalsely : Prop := fnExactHoursTogetherRow.holds Try.pinned (OpenSpec.ofChange fnExactHoursTogetherWrong)

/-- 'laws.FnExactWithoutCrew': WHATEVER THE INPUT: true; the input reads as it did. -/
def fnExactWithoutCrewSpec : ChangeSpec := { name := "fnExactWithoutCrew", fn := fun _ => fun
  | [d1, d2] => { results := [.lit (.bool true)], args := [d1, d2] }
  | _ => none }
def fnExactWithoutCrewRow : OpenClaim := { program := "ytpnddpaijfinkaa", sum := "8f476b5f582cbab9eacd22d07119751739b59a6b2d7a6daf8ed74e3903ba68ea", func := "loop.example/g00917/laws.FnExactWithoutCrew", spec := "fnExactWithoutCrew", unfollowed := true, recurses := true, apart := false }
def FnExactWithoutCrewSaid : Prop := fnExactWithoutCrewRow.holds Try.pinned (OpenSpec.ofChange fnExactWithoutCrewSpec)

/-- ITS FALSE NEIGHBOUR: 'it returns false'. Refute it at one input. -/
def fnExactWithoutCrewWrong : ChangeSpec := { name := "fnExactWithoutCrew", fn := fun _ => fun
  | [d1, d2] => { results := [.lit (.bool false)], args := [d1, d2] }
  | _ => none }
def FnExactWithoutCrewWrongFalsely : Prop := fnExactWithoutCrewRow.holds Try.pinned (OpenSpec.ofChange fnExactWithoutCrewWrong)

/-- 'laws.FnExactShareLine': WHATEVER THE INPUT: true; the input reads as it did. -/
def fnExactShareLineSpec : ChangeSpec := { name := "fnExactShareLine", fn := fun _ => fun
  | [d1, d2] => { results := [.lit (.bool true)], args := [d1, d2] }
  | _ => none }
def fnExactShareLineRow : OpenClaim := { program := "ytpnddpaijfinkaa", sum := "8f476b5f582cbab9eacd22d07119751739b59a6b2d7a6daf8ed74e3903ba68ea", func := "loop.example/g00917/laws.FnExactShareLine", spec := "fnExactShareLine", unfollowed := true, recurses := true, apart := false }
def FnExactShareLineSaid : Prop := fnExactShareLineRow.holds Try.pinned (OpenSpec.ofChange fnExactShareLineSpec)

/-- ITS FALSE NEIGHBOUR: 'it returns false'. Refute it at one input. -/
def fnExactShareLineWrong : ChangeSpec := { name := "fnExactShareLine", fn := fun _ => fun
  | [d1, d2] => { results := [.lit (.bool false)], args := [d1, d2] }
  | _ => none }
def FnExactShareLineWrongFalsely : Prop := fnExactShareLineRow.holds Try.pinned (OpenSpec.ofChange fnExactShareLineWrong)

/-- 'laws.FnCrews': WHATEVER THE INPUT: true; the input reads as it did. -/
def fnCrewsSpec : ChangeSpec := { name := "fnCrews", fn := fun _ => fun
  | [d] => { results := [.lit (.bool true)], args := [d] }
  | _ => none }
def fnCrewsRow : OpenClaim := { program := "ytpnddpaijfinkaa", sum := "8f476b5f582cbab9eacd22d07119751739b59a6b2d7a6daf8ed74e3903ba68ea", func := "loop.example/g00917/laws.FnCrews", spec := "fnCrews", unfollowed := true, recurses := true, apart := false }
def FnCrewsSaid : Prop := fnCrewsRow.holds Try.pinned (OpenSpec.ofChange fnCrewsSpec)

/-- ITS FALSE NEIGHBOUR: 'it returns false'. Refute it at one input. -/
def fnCrewsWrong : ChangeSpec := { name := "fnCrews", fn := fun _ => fun
  | [d] => { results := [.lit (.bool false)], args := [d] }
  | _ => none }
def FnCrewsWrongFalsely : Prop := fnCrewsRow.holds Try.pinned (OpenSpec.ofChange fnCrewsWrong)

/-- 'laws.FnCrewsTogether': WHATEVER THE INPUT: true; the input reads as it did. -/
def fnCrewsTogetherSpec : ChangeSpec := { name := "fnCrewsTogether", fn := fun _ => fun
  | [d] => { results := [.lit (.bool true)], args := [d] }
  | _ => none }
def fnCrewsTogetherRow : OpenClaim := { program := "ytpnddpaijfinkaa", sum := "8f476b5f582cbab9eacd22d07119751739b59a6b2d7a6daf8ed74e3903ba68ea", func := "loop.example/g00917/laws.FnCrewsTogether", spec := "fnCrewsTogether", unfollowed := true, recurses := true, apart := false }
def FnCrewsTogetherSaid : Prop := fnCrewsTogetherRow.holds Try.pinned (OpenSpec.ofChange fnCrewsTogetherSpec)

/-- ITS FALSE NEIGHBOUR: 'it returns false'. Refute it at one input. -/
def fnCrewsTogetherWrong : ChangeSpec := { name := "fnCrewsTogether", fn := fun _ => fun
  | [d] => { results := [.lit (.bool false)], args := [d] }
  | _ => none }
def FnCrewsTogetherWrongFalsely : Prop := fnCrewsTogetherRow.holds Try.pinned (OpenSpec.ofChange fnCrewsTogetherWrong)

/- THE SECOND FORM. 'bulk': how many values and letters a reading holds, each counted each time it is reached (what is shared counts as often as it is met; a slice's spare places count too). A statement '..UptoSaid' is the law's where the arguments, and the package variables that the reading takes, are together of bulk at most 1048576: NARROWER than '..Said'. Prove '..Said' where nothing that the law and all that it calls make is longer than what came in: it says more and counts as full. Else prove '..UptoSaid'. A law counts once. -/
mutual
def uptoBulk {H : Type} : DataW H → Nat
  | .lit (.string bytes) => bytes.length + 1
  | .lit _ => 1
  | .nil => 1
  | .ptr d => uptoBulk d + 1
  | .slice elems spare => uptoBulkAll elems + uptoBulkAll spare + 1
  | .agg parts => uptoBulkAll parts + 1
  | .iface _ d => uptoBulk d + 1
  | .map entries => uptoBulkEntries entries + 1
  | .held _ => 1
def uptoBulkAll {H : Type} : List (DataW H) → Nat
  | [] => 0
  | d :: r => uptoBulk d + uptoBulkAll r
def uptoBulkEntries {H : Type} : List (Lit × DataW H) → Nat
  | [] => 0
  | x :: r => uptoBulkEntry x + uptoBulkEntries r
def uptoBulkEntry {H : Type} : Lit × DataW H → Nat
  | (.string bytes, d) => bytes.length + uptoBulk d + 1
  | (_, d) => uptoBulk d + 1
 end
def uptoSmall : (H : Type) → List (DataW H) → Bool := fun _ ds => decide (uptoBulkAll ds ≤ 1048576)
def OpenSpec.upto (s : _root_.Go.ChangeSpec) : _root_.Go.OpenSpec := { _root_.Go.OpenSpec.ofChange s with cond := some uptoSmall }

/-- 'laws.FnExactIsCrew', WHERE WHAT IT READS IS OF BULK AT MOST 1048576: true; the input reads as it did. -/
def fnExactIsCrewUptoRow : OpenClaim := { program := "ytpnddpaijfinkaa", sum := "8f476b5f582cbab9eacd22d07119751739b59a6b2d7a6daf8ed74e3903ba68ea", func := "loop.example/g00917/laws.FnExactIsCrew", spec := "fnExactIsCrew", apart := false, narrowed := true }
def FnExactIsCrewUptoSaid : Prop := fnExactIsCrewUptoRow.holds Try.pinned (OpenSpec.upto fnExactIsCrewSpec)

/-- 'laws.FnExactBuiltBy', WHERE WHAT IT READS IS OF BULK AT MOST 1048576: true; the input reads as it did. -/
def fnExactBuiltByUptoRow : OpenClaim := { program := "ytpnddpaijfinkaa", sum := "8f476b5f582cbab9eacd22d07119751739b59a6b2d7a6daf8ed74e3903ba68ea", func := "loop.example/g00917/laws.FnExactBuiltBy", spec := "fnExactBuiltBy", apart := false, narrowed := true }
def FnExactBuiltByUptoSaid : Prop := fnExactBuiltByUptoRow.holds Try.pinned (OpenSpec.upto fnExactBuiltBySpec)

/-- 'laws.FnExactShiftMetres', WHERE WHAT IT READS IS OF BULK AT MOST 1048576: true; the input reads as it did. -/
def fnExactShiftMetresUptoRow : OpenClaim := { program := "ytpnddpaijfinkaa", sum := "8f476b5f582cbab9eacd22d07119751739b59a6b2d7a6daf8ed74e3903ba68ea", func := "loop.example/g00917/laws.FnExactShiftMetres", spec := "fnExactShiftMetres", apart := false, narrowed := true }
def FnExactShiftMetresUptoSaid : Prop := fnExactShiftMetresUptoRow.holds Try.pinned (OpenSpec.upto fnExactShiftMetresSpec)

/-- 'laws.FnExactHoursFor', WHERE WHAT IT READS IS OF BULK AT MOST 1048576: true; the input reads as it did. -/
def fnExactHoursForUptoRow : OpenClaim := { program := "ytpnddpaijfinkaa", sum := "8f476b5f582cbab9eacd22d07119751739b59a6b2d7a6daf8ed74e3903ba68ea", func := "loop.example/g00917/laws.FnExactHoursFor", spec := "fnExactHoursFor", apart := false, narrowed := true }
def FnExactHoursForUptoSaid : Prop := fnExactHoursForUptoRow.holds Try.pinned (OpenSpec.upto fnExactHoursForSpec)

/-- 'laws.FnExactTogetherBy', WHERE WHAT IT READS IS OF BULK AT MOST 1048576: true; the input reads as it did. -/
def fnExactTogetherByUptoRow : OpenClaim := { program := "ytpnddpaijfinkaa", sum := "8f476b5f582cbab9eacd22d07119751739b59a6b2d7a6daf8ed74e3903ba68ea", func := "loop.example/g00917/laws.FnExactTogetherBy", spec := "fnExactTogetherBy", unfollowed := true, recurses := true, apart := false, narrowed := true }
def FnExactTogetherByUptoSaid : Prop := fnExactTogetherByUptoRow.holds Try.pinned (OpenSpec.upto fnExactTogetherBySpec)

/-- 'laws.FnExactIdleCrews', WHERE WHAT IT READS IS OF BULK AT MOST 1048576: true; the input reads as it did. -/
def fnExactIdleCrewsUptoRow : OpenClaim := { program := "ytpnddpaijfinkaa", sum := "8f476b5f582cbab9eacd22d07119751739b59a6b2d7a6daf8ed74e3903ba68ea", func := "loop.example/g00917/laws.FnExactIdleCrews", spec := "fnExactIdleCrews", unfollowed := true, recurses := true, apart := false, narrowed := true }
def FnExactIdleCrewsUptoSaid : Prop := fnExactIdleCrewsUptoRow.holds Try.pinned (OpenSpec.upto fnExactIdleCrewsSpec)

/-- 'laws.FnExactHoursTogether', WHERE WHAT IT READS IS OF BULK AT MOST 1048576: true; the input reads as it did. -/
def fnExactHoursTogetherUptoRow : OpenClaim := { program := "ytpnddpaijfinkaa", sum := "8f476b5f582cbab9eacd22d07119751739b59a6b2d7a6daf8ed74e3903ba68ea", func := "loop.example/g00917/laws.FnExactHoursTogether", spec := "fnExactHoursTogether", unfollowed := true, recurses := true, apart := false, narrowed := true }
def FnExactHoursTogetherUptoSaid : Prop := fnExactHoursTogetherUptoRow.holds Try.pinned (OpenSpec.upto fnExactHoursTogetherSpec)

/-- 'laws.FnExactWithoutCrew', WHERE WHAT IT READS IS OF BULK AT MOST 1048576: true; the input reads as it did. -/
def fnExactWithoutCrewUptoRow : OpenClaim := { program := "ytpnddpaijfinkaa", sum := "8f476b5f582cbab9eacd22d07119751739b59a6b2d7a6daf8ed74e3903ba68ea", func := "loop.example/g00917/laws.FnExactWithoutCrew", spec := "fnExactWithoutCrew", unfollowed := true, recurses := true, apart := false, narrowed := true }
def FnExactWithoutCrewUptoSaid : Prop := fnExactWithoutCrewUptoRow.holds Try.pinned (OpenSpec.upto fnExactWithoutCrewSpec)

/-- 'laws.FnExactShareLine', WHERE WHAT IT READS IS OF BULK AT MOST 1048576: true; the input reads as it did. -/
def fnExactShareLineUptoRow : OpenClaim := { program := "ytpnddpaijfinkaa", sum := "8f476b5f582cbab9eacd22d07119751739b59a6b2d7a6daf8ed74e3903ba68ea", func := "loop.example/g00917/laws.FnExactShareLine", spec := "fnExactShareLine", unfollowed := true, recurses := true, apart := false, narrowed := true }
def FnExactShareLineUptoSaid : Prop := fnExactShareLineUptoRow.holds Try.pinned (OpenSpec.upto fnExactShareLineSpec)

/-- 'laws.FnCrews', WHERE WHAT IT READS IS OF BULK AT MOST 1048576: true; the input reads as it did. -/
def fnCrewsUptoRow : OpenClaim := { program := "ytpnddpaijfinkaa", sum := "8f476b5f582cbab9eacd22d07119751739b59a6b2d7a6daf8ed74e3903ba68ea", func := "loop.example/g00917/laws.FnCrews", spec := "fnCrews", unfollowed := true, recurses := true, apart := false, narrowed := true }
def FnCrewsUptoSaid : Prop := fnCrewsUptoRow.holds Try.pinned (OpenSpec.upto fnCrewsSpec)

/-- 'laws.FnCrewsTogether', WHERE WHAT IT READS IS OF BULK AT MOST 1048576: true; the input reads as it did. -/
def fnCrewsTogetherUptoRow : OpenClaim := { program := "ytpnddpaijfinkaa", sum := "8f476b5f582cbab9eacd22d07119751739b59a6b2d7a6daf8ed74e3903ba68ea", func := "loop.example/g00917/laws.FnCrewsTogether", spec := "fnCrewsTogether", unfollowed := true, recurses := true, apart := false, narrowed := true }
def FnCrewsTogetherUptoSaid : Prop := fnCrewsTogetherUptoRow.holds Try.pinned (OpenSpec.upto fnCrewsTogetherSpec)

end Rows
end Go.Proofs.Ytpnddpaijfinkaa
