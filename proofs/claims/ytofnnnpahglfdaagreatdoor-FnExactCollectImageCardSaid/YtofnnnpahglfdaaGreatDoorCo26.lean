/- Part 26 of the proof: the texts RsI. -/
import Derived.Test.YtofnnnpahglfdaaGreatDoorCo3
import Derived.Test.YtofnnnpahglfdaaGreatDoorCo22
import Derived.Test.YtofnnnpahglfdaaGreatDoorCo23
set_option linter.all false
set_option maxHeartbeats 2000000
set_option maxRecDepth 20000
namespace Go.Proofs.YtofnnnpahglfdaaGreatDoor
open Go Go.RowKit
section
variable {G:World->Prop}
end
end Go.Proofs.YtofnnnpahglfdaaGreatDoor
