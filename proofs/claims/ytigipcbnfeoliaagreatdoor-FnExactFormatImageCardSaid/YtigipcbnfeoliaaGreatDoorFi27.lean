/- Part 27 of the proof: the texts ShA, ShB, ShC. -/
import Derived.Test.YtigipcbnfeoliaaGreatDoorFi3
import Derived.Test.YtigipcbnfeoliaaGreatDoorFi11
import Derived.Test.YtigipcbnfeoliaaGreatDoorFi23
set_option linter.all false
set_option maxHeartbeats 2000000
set_option maxRecDepth 20000
namespace Go.Proofs.YtigipcbnfeoliaaGreatDoor
open Go Go.RowKit
section
variable {P : Program} {w0 : World} {N : Nat} {Q : Exit -> Act -> World -> Prop} {env : Env} {objs : aF}
end
section
variable {G : World -> Prop}
end
section
variable {G : World -> Prop}
end
end Go.Proofs.YtigipcbnfeoliaaGreatDoor
