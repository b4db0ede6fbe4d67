/- Part 26 of the proof: the texts RsI. -/
import Derived.Test.YtifcomgnmokimaaGreatDoorRt3
import Derived.Test.YtifcomgnmokimaaGreatDoorRt22
import Derived.Test.YtifcomgnmokimaaGreatDoorRt23
set_option linter.all false
set_option maxHeartbeats 2000000
set_option maxRecDepth 20000
namespace Go.Proofs.YtifcomgnmokimaaGreatDoor
open Go Go.RowKit
section
variable {G:World->Prop}
end
end Go.Proofs.YtifcomgnmokimaaGreatDoor
