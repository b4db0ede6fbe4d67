/- The contracts of the laws' own helpers on []int: copy, compare, mark, look at the marks. -/
import Derived.Test.YtdeokcbbjibkoaaDoorMem
import Derived.Test.YtdeokcbbjibkoaaDoorChecked
import Derived.Deep.QuietTactic
import Derived.BigQuiet
namespace Go.Proofs.YtdeokcbbjibkoaaDoor
open Go Go.RowKit

theorem Tryd.infoInt : (Tryd.prog.info? 3).map (fun i => (i.zero, i.size, i.bytes)) = some (some (.int .i64 0), 1, 8) := by kernel_rfl

def ints (zs : List Int) : List PT := zs.map (PT.int .i64)
/-- The marks k, k + 1, .., n of them. -/
def marks (k n : Nat) : List Int := (List.range n).map fun i => ((k + i : Nat) : Int)
end Go.Proofs.YtdeokcbbjibkoaaDoor
