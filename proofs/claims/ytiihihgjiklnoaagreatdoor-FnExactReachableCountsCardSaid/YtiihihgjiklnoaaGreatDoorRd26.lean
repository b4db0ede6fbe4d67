/- Part 26 of the proof. -/
import Derived.Test.YtiihihgjiklnoaaGreatDoorRd3
import Derived.Test.YtiihihgjiklnoaaGreatDoorRd22
import Derived.Test.YtiihihgjiklnoaaGreatDoorRd23
set_option maxHeartbeats 2000000
set_option maxRecDepth 20000
namespace Go.Proofs.YtiihihgjiklnoaaGreatDoor
open Go Go.RowKit
section
variable {G : World -> Prop}
end
end Go.Proofs.YtiihihgjiklnoaaGreatDoor
