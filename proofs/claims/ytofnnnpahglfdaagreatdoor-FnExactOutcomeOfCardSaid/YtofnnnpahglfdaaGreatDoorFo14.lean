/- Part 14 of the proof: the texts FmtB. -/
import Derived.Test.YtofnnnpahglfdaaGreatDoorFo8
import Derived.Deep.RegionWith
set_option linter.all false
namespace Go.Proofs.YtofnnnpahglfdaaGreatDoor
open Go Go.RowKit
def agh (k : Int) : UInt8 := if k = 1 then 98 else if k = 2 then 105 else if k = 5 then 99 else if k = 6 then 111 else 107
def ad.fmt (x : ad) : ByteArray :=
 if x.isL = false then ⟨#[]⟩
 else if x.kind = 0 then ⟨#[110]⟩
 else if x.kind = 3 then ⟨(116 :: agk x.text.data.toList).toArray⟩
 else if x.kind = 4 then ⟨#[115]⟩ ++ x.text
 else ⟨#[agh x.kind]⟩ ++ gn x.number
end Go.Proofs.YtofnnnpahglfdaaGreatDoor
