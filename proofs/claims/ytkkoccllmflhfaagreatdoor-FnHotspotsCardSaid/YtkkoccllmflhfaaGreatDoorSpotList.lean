/-
  Whether a list of hot spots is one: of the program and of the reference, walked.
-/
import Derived.Test.YtkkoccllmflhfaaGreatDoorSpotWalks
namespace Go.Proofs.YtkkoccllmflhfaaGreatDoor
open Go.RowKit

end Go.Proofs.YtkkoccllmflhfaaGreatDoor
