/- Part 44 of the proof: the texts SwA, SrA, SrP. -/
import Derived.Test.YtigipcbnfeoliaaGreatDoorRf7
import Derived.Test.YtigipcbnfeoliaaGreatDoorRf40
import Derived.Test.YtigipcbnfeoliaaGreatDoorRf41
import Derived.Test.YtigipcbnfeoliaaGreatDoorRf36
set_option linter.all false
set_option maxHeartbeats 2000000
set_option maxRecDepth 20000
namespace Go.Proofs.YtigipcbnfeoliaaGreatDoor
open Go Go.RowKit
def abn {α : Type} (f : α -> α) (l : List α) (q : Nat) : List α := (l.take q).map f ++ l.drop q
theorem abp {α : Type} (f : α -> α) (l : List α) (q : Nat) : (abn f l q).length = l.length := by
 unfold abn
 simp only [List.length_append, List.length_map, List.length_take, List.length_drop]
 omega
theorem zC {α : Type} (f : α -> α) (l : List α) : abn f l 0 = l := by simp [abn]
theorem abw {α : Type} (f : α -> α) {l : List α} {q : Nat} (h : q < l.length) : (abn f l q).set q (f l[q]) = abn f l (q + 1) := by
 unfold abn
 have e : ((l.take q).map f).length = q := by rw [List.length_map, List.length_take]; omega
 rw [<- List.take_append_getElem h, List.drop_eq_getElem_cons h, List.map_append, List.set_append_right _ _ (by omega), e, Nat.sub_self, List.append_assoc]
 rfl
section
variable {G : World -> Prop}
end
theorem fj (x : ah) (y : eF) : imC x y = [.ms y.1.1.1.1 y.1.1.1.2 0 x.base.classes.length, .ms y.1.2.1.1.1 y.1.2.1.1.2 0 x.base.codes.length, .ms y.1.2.2.1 y.1.2.2.2 0 x.base.entries.length, .int .i64 x.base.main,
 .ms y.2.1.1.1.1 y.2.1.1.1.2 0 x.store.classes.length, .ms y.2.1.2.1.1.1 y.2.1.2.1.1.2 0 x.store.objects.length, .ms y.2.1.2.2.1 y.2.1.2.2.2 0 x.store.output.length, .int .i64 x.store.ticks, .int .i64 x.store.budget, .int .i64 x.store.made,
 .ms y.2.2.1.1 y.2.2.1.2 0 x.blocks.length, .ms y.2.2.2.1.1.1 y.2.2.2.1.1.2 0 x.contexts.length, .ms y.2.2.2.2.1.1 y.2.2.2.2.1.2 0 x.processes.length, .ms y.2.2.2.2.2.1 y.2.2.2.2.2.2 0 x.ready.length, .int .i64 x.now, .int .i64 x.status, .int .i64 x.value.kind, .int .i64 x.value.number, .str x.value.text, .str x.fault] := rfl
theorem wk {α β γ : Type} (f : α -> β -> γ) (l : List α) (ps : List β) (i : Nat) (x : α) (p : β) : List.zipWith f (l.set i x) (ps.set i p) = (List.zipWith f l ps).set i (f x p) := by
 induction l generalizing ps i with
 | nil => simp
 | cons a l ih => cases ps <;> cases i <;> simp [ih]
end Go.Proofs.YtigipcbnfeoliaaGreatDoor
