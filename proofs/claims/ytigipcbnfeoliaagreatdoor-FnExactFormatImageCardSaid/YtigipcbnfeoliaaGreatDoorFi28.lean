/- Part 28 of the proof: the texts RsI. -/
import Derived.Test.YtigipcbnfeoliaaGreatDoorFi3
import Derived.Test.YtigipcbnfeoliaaGreatDoorFi23
import Derived.Test.YtigipcbnfeoliaaGreatDoorFi25
set_option linter.all false
set_option maxHeartbeats 2000000
set_option maxRecDepth 20000
namespace Go.Proofs.YtigipcbnfeoliaaGreatDoor
open Go Go.RowKit
section
variable {G : World -> Prop}
end
end Go.Proofs.YtigipcbnfeoliaaGreatDoor
