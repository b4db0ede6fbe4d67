/- Part 20 of the proof: the texts FmtC, FmtD. -/
import Derived.Test.YtofnnnpahglfdaaGreatDoorFo14
import Derived.Deep.RegionLaw
import Derived.Deep.RegionWith
import Derived.Laws.BitsLemmas
set_option linter.all false
namespace Go.Proofs.YtofnnnpahglfdaaGreatDoor
open Go Go.RowKit
end Go.Proofs.YtofnnnpahglfdaaGreatDoor
