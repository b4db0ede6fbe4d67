/- Part 25 of the proof. -/
import Derived.Test.YtiihihgjiklnoaaGreatDoorRd3
import Derived.Test.YtiihihgjiklnoaaGreatDoorRd14
import Derived.Test.YtiihihgjiklnoaaGreatDoorRd22
set_option maxHeartbeats 2000000
set_option maxRecDepth 20000
namespace Go.Proofs.YtiihihgjiklnoaaGreatDoor
open Go Go.RowKit
section
variable {P : Program} {w0 : World} {N : Nat} {Q : Exit -> Act -> World -> Prop} {env : Env} {objs : aK}
end
section
variable {G : World -> Prop}
end
section
variable {G : World -> Prop}
end
end Go.Proofs.YtiihihgjiklnoaaGreatDoor
