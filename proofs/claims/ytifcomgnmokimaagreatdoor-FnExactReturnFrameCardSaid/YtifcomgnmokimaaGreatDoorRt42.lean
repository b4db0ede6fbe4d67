/- Part 42 of the proof: the texts SwA, SrA, SrP. -/
import Derived.Test.YtifcomgnmokimaaGreatDoorRt3
import Derived.Test.YtifcomgnmokimaaGreatDoorRt38
import Derived.Test.YtifcomgnmokimaaGreatDoorRt39
import Derived.Test.YtifcomgnmokimaaGreatDoorRt34
set_option linter.all false
set_option maxHeartbeats 2000000
set_option maxRecDepth 20000
namespace Go.Proofs.YtifcomgnmokimaaGreatDoor
open Go Go.RowKit
def aiD {α:Type} (f:α->α) (l:List α) (q:Nat):List α:=(l.take q).map f++l.drop q
section
variable {G:World->Prop}
end
theorem bg (x:ad) (y:bJ):imC x y=[.ms y.1.1.1.1 y.1.1.1.2 0 x.base.classes.length,.ms y.1.2.1.1.1 y.1.2.1.1.2 0 x.base.codes.length,.ms y.1.2.2.1 y.1.2.2.2 0 x.base.entries.length,.int .i64 x.base.main,
 .ms y.2.1.1.1.1 y.2.1.1.1.2 0 x.store.classes.length,.ms y.2.1.2.1.1.1 y.2.1.2.1.1.2 0 x.store.objects.length,.ms y.2.1.2.2.1 y.2.1.2.2.2 0 x.store.output.length,.int .i64 x.store.ticks,.int .i64 x.store.budget,.int .i64 x.store.made,
 .ms y.2.2.1.1 y.2.2.1.2 0 x.blocks.length,.ms y.2.2.2.1.1.1 y.2.2.2.1.1.2 0 x.contexts.length,.ms y.2.2.2.2.1.1 y.2.2.2.2.1.2 0 x.processes.length,.ms y.2.2.2.2.2.1 y.2.2.2.2.2.2 0 x.ready.length,.int .i64 x.now,.int .i64 x.status,.int .i64 x.value.kind,.int .i64 x.value.number,.str x.value.text,.str x.fault]:=rfl
theorem xN {α β γ:Type} (f:α->β->γ) (l:List α) (ps:List β) (i:Nat) (x:α) (p:β):List.zipWith f (l.set i x) (ps.set i p)=(List.zipWith f l ps).set i (f x p):=by
 induction l generalizing ps i with
 | nil=>simp
 | cons a l ih=>cases ps <;> cases i <;> simp[ih]
end Go.Proofs.YtifcomgnmokimaaGreatDoor
