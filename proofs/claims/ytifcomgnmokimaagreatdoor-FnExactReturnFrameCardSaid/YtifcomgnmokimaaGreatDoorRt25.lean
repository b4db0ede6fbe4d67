/- Part 25 of the proof: the texts ShA, ShB, ShC. -/
import Derived.Test.YtifcomgnmokimaaGreatDoorRt3
import Derived.Test.YtifcomgnmokimaaGreatDoorRt14
import Derived.Test.YtifcomgnmokimaaGreatDoorRt22
set_option linter.all false
set_option maxHeartbeats 2000000
set_option maxRecDepth 20000
namespace Go.Proofs.YtifcomgnmokimaaGreatDoor
open Go Go.RowKit
section
variable {P:Program} {w0:World} {N:Nat} {Q:Exit->Act->World->Prop} {env:Env} {objs:aG}
theorem il {x:Exit} {s b:Nat} {cells:List TV} (i m:Nat) (hm:0<m) (hi:cells[i]?=some .nils) (h:∀ss,AQ w0 N Q x env ((s,b,.box (cells.set i (.ms ss 0 0 0)))::(ss,0,.row m [])::objs)):AQ w0 N Q x env ((s,b,.box cells)::objs):=⟨fun a w hs=>by
 obtain⟨ss,h1⟩:=hs.nilC i m hm hi
 exact(h ss).run a w h1⟩
end
section
variable {G:World->Prop}
end
section
variable {G:World->Prop}
end
end Go.Proofs.YtifcomgnmokimaaGreatDoor
