/- Part 9 of the proof. -/
import Derived.Test.YtiihihgjiklnoaaGreatDoorRd4
import Derived.Test.YtiihihgjiklnoaaGreatDoorRd5
import Derived.Deep.RegionHeld3
import Derived.Test.YtiihihgjiklnoaaGreatDoorRd3
namespace Go.Proofs.YtiihihgjiklnoaaGreatDoor
open Go Go.RowKit
end Go.Proofs.YtiihihgjiklnoaaGreatDoor
