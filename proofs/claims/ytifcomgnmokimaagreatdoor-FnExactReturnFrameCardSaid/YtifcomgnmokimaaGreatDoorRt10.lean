/- Part 10 of the proof: the texts EngAT. -/
import Derived.Test.YtifcomgnmokimaaGreatDoorRt3
set_option linter.all false
namespace Go.Proofs.YtifcomgnmokimaaGreatDoor
open Go Go.RowKit
section
variable {P:Program} {w0:World} {N:Nat} {Q:Exit->Act->World->Prop} {env:Env} {objs:aG} {o:Oper}
theorem aeG {x y:Operand} {T T2:TypeId} {s b off len:Nat} (ho:o.op=.call { callee:=.builtin .copy,args:=#[x,y],argTypes:=#[T,T2] }) (hx:ev env x=some (.ms s b off len)) (hy:ev env y=some .nils) (hT:P.underlying T=some (.slice (P.elem T))) (hS:(P.info? (P.elem T)).isSome=true):ba P w0 env objs o (.int .i64 0):=aO fun a w hw hop=>by
 have h0:=hop x (by simp[ho,Op.operands,Call.operands]) _ hx
 have h1:=hop y (by simp[ho,Op.operands,Call.operands]) _ hy
 generalize hxv:a.eval x=v at h0
 generalize hyv:a.eval y=u at h1
 cases h1
 cases h0 with
 | ms s b off len v h =>
   obtain⟨A,c,rfl⟩:=h.1.2.2
   obtain⟨i,hi⟩:=Option.isSome_iff_exists.1 hS
   refine⟨.int .i64 0, ?_,.int _ _⟩
   simp only[execOp,ho,resolve,ZE,Sem.run_pure,Zz,invoke,builtin,Ys,ZU,Yj,hxv,hyv]
   cases A <;> simp[Builtin.copy_,run_underlying hT,Builtin.lenOf,Builtin.firstCells,run_sizeOf w hi,storeCells,Sem.run_pure,Zz,goInt]
theorem ae8 {ops:Array Oper} {rest:List Oper} {d T0:Nat} {pos:String} {af:Array Edge} {g:Option (Nat×Bool)} {x y:Operand} {T T2:TypeId} {s b off len:Nat} (hN:Nat.blt d N=true) (hx:ev env x=some (.ms s b off len)) (hy:ev env y=some .nils) (hT:P.underlying T=some (.slice (P.elem T))) (hS:(P.info? (P.elem T)).isSome=true) (h:AL P w0 N ops Q rest ((d,.int .i64 0)::env) objs) :
   AO P w0 N ops Q ⟨some d,.call { callee:=.builtin .copy,args:=#[x,y],argTypes:=#[T,T2] },T0,pos,af,g⟩ rest env objs:=wu rfl hN (aeG rfl hx hy hT hS) h
end
end Go.Proofs.YtifcomgnmokimaaGreatDoor
