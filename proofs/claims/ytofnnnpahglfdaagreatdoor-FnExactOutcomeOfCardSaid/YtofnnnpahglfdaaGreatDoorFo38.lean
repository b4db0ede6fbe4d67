/- Part 38 of the proof: the texts FiC. -/
import Derived.Test.YtofnnnpahglfdaaGreatDoorFo3
import Derived.Test.YtofnnnpahglfdaaGreatDoorFo34
import Derived.Test.YtofnnnpahglfdaaGreatDoorFo36
set_option linter.all false
set_option maxHeartbeats 2000000
set_option maxRecDepth 20000
namespace Go.Proofs.YtofnnnpahglfdaaGreatDoor
open Go Go.RowKit
theorem Ct.monoF {P : Program} {G G2 : World -> Prop} {f : FuncId} {args : List TV} {r : Nat -> TV} (h : Ct P G f args r) (hg : ∀ w, G2 w -> G w) : Ct P G2 f args r := fun w vs h0 h1 => h w vs h0 (hg w h1)
theorem xg {lo : Nat} {l : List az} {i : Nat} (h : i < l.length) : (l.map (az.tw lo))[i]? = some [.int .i64 l[i].owner, .bool l[i].class_, .str l[i].selector, .int .i64 l[i].code] := aM h
theorem ux {lo : Nat} {l : List aA} {i : Nat} (h : i < l.length) : (l.map (aA.tw lo))[i]? = some [.bool l[i].block, .int .i64 l[i].params, .int .i64 l[i].slots, .sl lo 4 (l[i].instrs.map (ah.tw lo))] := aM h
end Go.Proofs.YtofnnnpahglfdaaGreatDoor
