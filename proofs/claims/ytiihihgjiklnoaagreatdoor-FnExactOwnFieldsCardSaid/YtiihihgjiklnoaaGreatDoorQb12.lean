/- Part 12 of the proof: the texts EngAH. -/
import Derived.Test.YtiihihgjiklnoaaGreatDoorQb7
/- The abstract walk, part 34: the builtin clear on the end of a row that is owned; s[:j] of a row that is owned. -/
namespace Go.Proofs.YtiihihgjiklnoaaGreatDoor
open Go Go.RowKit
section
variable {P : Program} {w0 : World} {N : Nat} {Q : Exit → Act → World → Prop} {env : Env} {objs objs' : aI} {o : Oper}
end
end Go.Proofs.YtiihihgjiklnoaaGreatDoor
