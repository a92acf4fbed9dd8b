/-
  DERIVED. GIVEN WITH THE SEED: THE CARDS: each row of YtkkoccllmflhfaaGreatDoorRows.lean that lists a variable, with what it lists TIED to the program's text (the seventh form; the later family's looks); each row that meets fmt, with fmt's text TOLD by the authors' own Lean function (tested against real Go, not proved from fmt's source: count such statements apart). THE CARD IS WHAT COUNTS. Prove the row's statement (the work); the ties are given (YtkkoccllmflhfaaGreatDoorTie.lean); close each card by the builder's one call (the guide's Derived/Test/ToyasCard.lean, 'card_holds'). Laid BY PROGRAM, IN A SANDBOX (cutbox-door.mjs). By AI agents, Wed Nov 11 2026. No macro, syntax, notation, axiom, sorry.
-/
import Derived.Test.YtkkoccllmflhfaaGreatDoorRows
import GoSem.ClaimSeven
namespace Go.Proofs.YtkkoccllmflhfaaGreatDoor
namespace Rows

/-- THE TIED CARD OF 'laws.FnHotspots'. -/
def fnHotspotsCard : Claim7 := { stood := { row := fnHotspotsRow, standIns := [], harness := (true, "a495607e1a8863bef3ed5cf923885bdd828ea648b7550731674fa039b828f346"), looks := true }, kinds := [], alts := [], laidByText := true, laidKinds := [.data, .data, .data, .data, .sentinel, .sentinel, .pinned], laidTests := true, laidLooks := .later }
def FnHotspotsCardSaid : Prop := Claim7.holds Tryz.pinned (.plain (OpenSpec.ofChange fnHotspotsSpec)) fnHotspotsCard

/-- THE SECOND FORM's CARD OF 'laws.FnHotspots'. -/
def fnHotspotsUptoCard : Claim7 := { stood := { row := fnHotspotsUptoRow, standIns := [], harness := (true, "a495607e1a8863bef3ed5cf923885bdd828ea648b7550731674fa039b828f346"), looks := true }, kinds := [], alts := [], laidByText := true, laidKinds := [.data, .data, .data, .data, .sentinel, .sentinel, .pinned], laidTests := true, laidLooks := .later }
def FnHotspotsUptoCardSaid : Prop := Claim7.holds Tryz.pinned (.plain (OpenSpec.upto fnHotspotsSpec)) fnHotspotsUptoCard
end Rows
end Go.Proofs.YtkkoccllmflhfaaGreatDoor
