/-
  DERIVED. GIVEN WITH THE SEED: THE CARDS: each row of YtkkoccllmflhfaaDoorRows.lean that lists a variable, with what it lists TIED to the program's text (the seventh form; the later family's looks); each row that meets fmt, with fmt's text TOLD by the authors' own Lean function (tested against real Go, not proved from fmt's source: count such statements apart). THE CARD IS WHAT COUNTS. Prove the row's statement (the work); the ties are given (YtkkoccllmflhfaaDoorTie.lean); close each card by the builder's one call (the guide's Derived/Test/ToyasCard.lean, 'card_holds'). Laid BY PROGRAM, IN A SANDBOX (cutbox-door.mjs). By AI agents, Wed Nov 11 2026. No macro, syntax, notation, axiom, sorry.
-/
import Derived.Test.YtkkoccllmflhfaaDoorRows
import GoSem.ClaimSeven
namespace Go.Proofs.YtkkoccllmflhfaaDoor
namespace Rows

/-- THE TIED CARD OF 'laws.FnExactSpotText'. -/
def fnExactSpotTextCard : Claim7 := { stood := { row := fnExactSpotTextRow, standIns := [], harness := (true, "ac186bf940d3ece048babab4fbb90679ae044edc0c3fcc3b2c0380f0b459b88d"), looks := true }, kinds := [], alts := [], laidByText := true, laidKinds := [.data, .data, .data], laidTests := true, laidLooks := .later }
def FnExactSpotTextCardSaid : Prop := Claim7.holds Tryd.pinned (.plain (OpenSpec.ofChange fnExactSpotTextSpec)) fnExactSpotTextCard

/-- THE TIED CARD OF 'laws.FnExactParseSpot'. -/
def fnExactParseSpotCard : Claim7 := { stood := { row := fnExactParseSpotRow, standIns := [], harness := (true, "ac186bf940d3ece048babab4fbb90679ae044edc0c3fcc3b2c0380f0b459b88d"), looks := true }, kinds := [], alts := [], laidByText := true, laidKinds := [.data, .data, .data, .data, .sentinel, .sentinel, .pinned], laidTests := true, laidLooks := .later }
def FnExactParseSpotCardSaid : Prop := Claim7.holds Tryd.pinned (.plain (OpenSpec.ofChange fnExactParseSpotSpec)) fnExactParseSpotCard

/-- THE SECOND FORM's CARD OF 'laws.FnExactSpotText'. -/
def fnExactSpotTextUptoCard : Claim7 := { stood := { row := fnExactSpotTextUptoRow, standIns := [], harness := (true, "ac186bf940d3ece048babab4fbb90679ae044edc0c3fcc3b2c0380f0b459b88d"), looks := true }, kinds := [], alts := [], laidByText := true, laidKinds := [.data, .data, .data], laidTests := true, laidLooks := .later }
def FnExactSpotTextUptoCardSaid : Prop := Claim7.holds Tryd.pinned (.plain (OpenSpec.upto fnExactSpotTextSpec)) fnExactSpotTextUptoCard

/-- THE SECOND FORM's CARD OF 'laws.FnExactParseSpot'. -/
def fnExactParseSpotUptoCard : Claim7 := { stood := { row := fnExactParseSpotUptoRow, standIns := [], harness := (true, "ac186bf940d3ece048babab4fbb90679ae044edc0c3fcc3b2c0380f0b459b88d"), looks := true }, kinds := [], alts := [], laidByText := true, laidKinds := [.data, .data, .data, .data, .sentinel, .sentinel, .pinned], laidTests := true, laidLooks := .later }
def FnExactParseSpotUptoCardSaid : Prop := Claim7.holds Tryd.pinned (.plain (OpenSpec.upto fnExactParseSpotSpec)) fnExactParseSpotUptoCard
end Rows
end Go.Proofs.YtkkoccllmflhfaaDoor
