/- Part 42 of the proof: the texts SwA, SrA, SrP. -/
import Derived.Test.YtofnnnpahglfdaaGreatDoorCo3
import Derived.Test.YtofnnnpahglfdaaGreatDoorCo38
import Derived.Test.YtofnnnpahglfdaaGreatDoorCo39
import Derived.Test.YtofnnnpahglfdaaGreatDoorCo34
set_option linter.all false
set_option maxHeartbeats 2000000
set_option maxRecDepth 20000
namespace Go.Proofs.YtofnnnpahglfdaaGreatDoor
open Go Go.RowKit
section
variable {G:World->Prop}
end
end Go.Proofs.YtofnnnpahglfdaaGreatDoor
