/- Part 35 of the proof: the texts ImE. -/
import Derived.Test.YtifcomgnmokimaaGreatDoorRt28
import Derived.Test.YtifcomgnmokimaaGreatDoorRt16
import Derived.Test.YtifcomgnmokimaaGreatDoorRt12
set_option linter.all false
set_option maxHeartbeats 4000000
set_option maxRecDepth 20000
namespace Go.Proofs.YtifcomgnmokimaaGreatDoor
open Go Go.RowKit
open Classical in
noncomputable def lA (st:aQ) (nb:Int):Bool :=
 cn st.classes && (inR st.made st.objects.length 800 && (decide (st.output.length<=60) && (inR st.budget 0 3000 && (inR st.ticks 0 st.budget && (st.output.all gN && st.objects.all (hY st nb))))))
theorem oz (t:ByteArray):kf 3 0 t=gN t:=by
 unfold kf
 rw[if_neg (by decide),if_neg (by decide),if_neg (by decide),if_pos rfl,decide_eq_true rfl,Zn]
theorem pA {G:World->Prop} (t:ByteArray):Ct Tryz.prog G 78 [.str t] (fun _=>.agg [.int .i64 3,.int .i64 0,.str t]):=by
 refine av Tryz.func78 rfl Tryz.ntmps78 rfl rfl fun w0 _ hG=>?_
 repeat' (first|refine W_ ?_|(refine ak ?_;intro ss bb)|refine ac ?_|refine er ?_)
 refine aN x_ rfl (.cell _ _ _ _ _ rfl mm_ (by kernel_rfl) (by kernel_rfl) (by kernel_rfl)) (fun _=>?_)
 exact mH (.cons (.flat rfl) (.cons (.flat rfl) (.cons (.flat rfl) .nil)))
theorem uT (f lo:Nat) (st:aQ) (hsm:st.small 1048576) (nb:Int):Ct Tryz.prog GL 75 [.cp f (st.tw lo),.int .i64 nb] (fun _=>.bool (lA st nb)):=by
 refine av Tryz.func75 rfl Tryz.ntmps75 rfl rfl fun w0 _ hG=>?_
 have hst:=en
 have k1:=kb hst lo st.classes hsm.1
 have k2:=bC (G:=GL) st.made st.objects.length 800
 have k4:=bC (G:=GL) st.budget 0 3000
 have k5:=bC (G:=GL) st.ticks 0 st.budget
 have hol:=cg st.output
 have hbl:=ar.len lo st.objects
 have hcn:=aa.len lo st.classes
 have hz1:=hsm.2.1.1
 have hz2:=hsm.2.2.1
 have hex:=fun(o:ar) (h:o.small 1048576) (hc:cn st.classes=true)=>xe f lo st (sR hc) (lU hc).1 nb o h
 have hln:=fun(t:ByteArray) (h:t.size<=1048576)=>ik 3 0 t h
 unfold lA
 unfold aQ.tw at hex |-
 cases hc1:cn st.classes
 case false =>
   rw[hc1] at k1
   rw[Zl]
   repeat' (first|refine V_ ?_|refine ai hG hst (k1) ?_)
   exact r1_
 rw[hc1] at k1
 rw[Zn]
 cases hc2:inR st.made st.objects.length 800
 case false =>
   rw[hc2] at k2
   rw[Zl]
   repeat' (first|refine V_ ?_|refine ai hG hst (k1) ?_|refine ai hG hst (k2) ?_)
   exact r1_
 rw[hc2] at k2
 rw[Zn]
 by_cases hc3:st.output.length<=60
 case neg =>
   rw[decide_eq_false hc3,Zl]
   repeat' (first|refine V_ ?_|refine ai hG hst (k1) ?_|refine ai hG hst (k2) ?_)
   exact r1_
 rw[decide_eq_true hc3,Zn]
 cases hc4:inR st.budget 0 3000
 case false =>
   rw[hc4] at k4
   rw[Zl]
   repeat' (first|refine V_ ?_|refine ai hG hst (k1) ?_|refine ai hG hst (k2) ?_|refine ai hG hst (k4) ?_)
   exact r1_
 rw[hc4] at k4
 rw[Zn]
 cases hc5:inR st.ticks 0 st.budget
 case false =>
   rw[hc5] at k5
   rw[Zl]
   repeat' (first|refine V_ ?_|refine ai hG hst (k1) ?_|refine ai hG hst (k2) ?_|refine ai hG hst (k4) ?_|refine ai hG hst (k5) ?_)
   exact r1_
 rw[hc5] at k5
 rw[Zn]
 repeat' (first|refine V_ ?_|refine ai hG hst (k1) ?_|refine ai hG hst (k2) ?_|refine ai hG hst (k4) ?_|refine ai hG hst (k5) ?_)
 apply ap (X:=Nat) [0,1,4] (fun i=>[(5,.int .i64 (i:Int))]) (fun _=>[]) (fun i=>i<=st.output.length/\∀y∈st.output.take i,gN y=true) (fun i=>st.output.length - i) 0 ⟨Ze _,by simp⟩
 exact kp_;exact nw_
 ·exact .refl _
 rintro i ⟨hi,hall⟩
 try dsimp only
 by_cases hlt:i<st.output.length
 ·have hrow:=nM hlt
  have hxi:=hln _ (hsm.2.2.2 _ (Zb hlt))
  have hta:=aY (p:=fun y=>gN y=true) hlt hall
  cases hfi:gN st.output[i] with
  | false =>
    rw[show st.output.all gN=false from Bool.eq_false_iff.2 fun h=>(by rw[List.all_eq_true.1 h _ (Zb hlt)] at hfi;cases hfi),Zl]
    rw[oz] at hxi;rw[hfi] at hxi
    generalize st.output[i]=x at hrow hxi
    repeat' (first|refine W_ ?_|refine ae hG hst (pA (G:=GL) x) ?_|refine ae hG hst (hxi) ?_)
    exact r1_
  | true =>
    rw[oz] at hxi;rw[hfi] at hxi
    rw[hfi] at hta
    generalize st.output[i]=x at hrow hxi
    repeat' (first|refine W_ ?_|refine ae hG hst (pA (G:=GL) x) ?_|refine ae hG hst (hxi) ?_)
    exact ah (i+1) ⟨by omega,hta rfl⟩ (by omega) (.of _ nw_ od_ pk_)
 obtain rfl:i=st.output.length:=by omega
 rw[Zc (Zg _)] at hall
 rw[List.all_eq_true.2 hall,Zn]
 clear hln hall
 repeat' refine W_ ?_
 have hfo:∀i (h:i<st.objects.length),hY st nb st.objects[i]=false->st.objects.all (hY st nb)=false:=fun i h hf=>Bool.eq_false_iff.2 fun h2=>by
   rw[List.all_eq_true.1 h2 _ (Zb h)] at hf;cases hf
 apply ap (X:=Nat) [0,1,4] (fun i=>[(6,.int .i64 (i:Int))]) (fun _=>[]) (fun i=>i<=st.objects.length/\∀y∈st.objects.take i,hY st nb y=true) (fun i=>st.objects.length - i) 0 ⟨Ze _,by simp⟩
 exact kp_;exact nw_
 ·exact .refl _
 rintro i ⟨hi,hall⟩
 try dsimp only
 by_cases hlt:i<st.objects.length
 ·have hrow:(st.objects.map (ar.tw lo))[i]?=some [.int .i64 st.objects[i].kind,.int .i64 st.objects[i].class_,.sl lo 3 (st.objects[i].fields.map (ab.tw lo)),.sl lo 1 (aS st.objects[i].numbers)]:=aK hlt
  have hxi:=hex _ (hsm.2.1.2 _ (Zb hlt)) hc1
  have hta:=aY (p:=fun y=>hY st nb y=true) hlt hall
  clear hex
  cases hfi:hY st nb st.objects[i] with
  | false =>
    rw[hfo i hlt hfi]
    rw[hfi] at hxi
    generalize st.objects[i]=x at hrow hxi
    obtain⟨xk,xc,xf,xn⟩:=x
    dsimp only at hrow hxi
    repeat' (first|refine W_ ?_|refine ae hG hst (hxi) ?_)
    exact r1_
  | true =>
    rw[hfi] at hxi hta
    generalize st.objects[i]=x at hrow hxi
    obtain⟨xk,xc,xf,xn⟩:=x
    dsimp only at hrow hxi
    repeat' (first|refine W_ ?_|refine ae hG hst (hxi) ?_)
    exact ah (i+1) ⟨by omega,hta rfl⟩ (by omega) (.of _ nw_ od_ pk_)
 obtain rfl:i=st.objects.length:=by omega
 rw[Zc (Zg _)] at hall
 rw[List.all_eq_true.2 hall]
 repeat' refine W_ ?_
 exact r1_
theorem z8 (lo:Nat) (st:aQ) (hsm:st.small 1048576) (nb:Int):Ct Tryz.prog GL 101 [.agg (st.tw lo),.int .i64 nb] (fun _=>.bool (lA st nb)):=by
 refine av Tryz.func101 rfl Tryz.ntmps101 rfl rfl fun w0 _ hG=>?_
 have hst:=en
 have k1:=mY hst lo st.classes hsm.1
 have k2:=aP (G:=GL) st.made st.objects.length 800
 have k4:=aP (G:=GL) st.budget 0 3000
 have k5:=aP (G:=GL) st.ticks 0 st.budget
 have hol:=cg st.output
 have hbl:=ar.len lo st.objects
 have hcn:=aa.len lo st.classes
 have hz1:=hsm.2.1.1
 have hz2:=hsm.2.2.1
 have hex:=fun(o:ar) (h:o.small 1048576) (hc:cn st.classes=true)=>w9 lo st (sR hc) (lU hc).1 nb o h
 have hln:=fun(t:ByteArray) (h:t.size<=1048576)=>pG hst t h
 unfold lA
 unfold aQ.tw at hex |-
 cases hc1:cn st.classes
 case false =>
   rw[hc1] at k1
   rw[Zl]
   repeat' (first|refine W_ ?_|refine aJ ?_|refine ae hG hst (k1) ?_)
   exact r1_
 rw[hc1] at k1
 rw[Zn]
 cases hc2:inR st.made st.objects.length 800
 case false =>
   rw[hc2] at k2
   rw[Zl]
   repeat' (first|refine W_ ?_|refine aJ ?_|refine ae hG hst (k1) ?_|refine ae hG hst (k2) ?_)
   exact r1_
 rw[hc2] at k2
 rw[Zn]
 by_cases hc3:st.output.length<=60
 case neg =>
   rw[decide_eq_false hc3,Zl]
   repeat' (first|refine W_ ?_|refine aJ ?_|refine ae hG hst (k1) ?_|refine ae hG hst (k2) ?_)
   exact r1_
 rw[decide_eq_true hc3,Zn]
 cases hc4:inR st.budget 0 3000
 case false =>
   rw[hc4] at k4
   rw[Zl]
   repeat' (first|refine W_ ?_|refine aJ ?_|refine ae hG hst (k1) ?_|refine ae hG hst (k2) ?_|refine ae hG hst (k4) ?_)
   exact r1_
 rw[hc4] at k4
 rw[Zn]
 cases hc5:inR st.ticks 0 st.budget
 case false =>
   rw[hc5] at k5
   rw[Zl]
   repeat' (first|refine W_ ?_|refine aJ ?_|refine ae hG hst (k1) ?_|refine ae hG hst (k2) ?_|refine ae hG hst (k4) ?_|refine ae hG hst (k5) ?_)
   exact r1_
 rw[hc5] at k5
 rw[Zn]
 repeat' (first|refine W_ ?_|refine aJ ?_|refine ae hG hst (k1) ?_|refine ae hG hst (k2) ?_|refine ae hG hst (k4) ?_|refine ae hG hst (k5) ?_)
 apply ap (X:=Nat) [1,2,4,43,44] (fun i=>[(45,.int .i64 (i:Int))]) (fun _=>[]) (fun i=>i<=st.output.length/\∀y∈st.output.take i,gN y=true) (fun i=>st.output.length - i) 0 ⟨Ze _,by simp⟩
 exact kp_;exact nw_
 ·exact .refl _
 rintro i ⟨hi,hall⟩
 try dsimp only
 by_cases hlt:i<st.output.length
 ·have hrow:=nM hlt
  have hxi:=hln _ (hsm.2.2.2 _ (Zb hlt))
  have hta:=aY (p:=fun y=>gN y=true) hlt hall
  cases hfi:gN st.output[i] with
  | false =>
    rw[show st.output.all gN=false from Bool.eq_false_iff.2 fun h=>(by rw[List.all_eq_true.1 h _ (Zb hlt)] at hfi;cases hfi),Zl]
    rw[hfi] at hxi
    generalize st.output[i]=x at hrow hxi
    repeat' (first|refine W_ ?_|refine ae hG hst (hxi) ?_)
    exact r1_
  | true =>
    rw[hfi] at hxi
    rw[hfi] at hta
    generalize st.output[i]=x at hrow hxi
    repeat' (first|refine W_ ?_|refine ae hG hst (hxi) ?_)
    exact ah (i+1) ⟨by omega,hta rfl⟩ (by omega) (.of _ nw_ od_ pk_)
 obtain rfl:i=st.output.length:=by omega
 rw[Zc (Zg _)] at hall
 rw[List.all_eq_true.2 hall,Zn]
 clear hln hall
 repeat' refine W_ ?_
 have hfo:∀i (h:i<st.objects.length),hY st nb st.objects[i]=false->st.objects.all (hY st nb)=false:=fun i h hf=>Bool.eq_false_iff.2 fun h2=>by
   rw[List.all_eq_true.1 h2 _ (Zb h)] at hf;cases hf
 apply ap (X:=Nat) [1,2,4,54,55] (fun i=>[(56,.int .i64 (i:Int))]) (fun _=>[]) (fun i=>i<=st.objects.length/\∀y∈st.objects.take i,hY st nb y=true) (fun i=>st.objects.length - i) 0 ⟨Ze _,by simp⟩
 exact kp_;exact nw_
 ·exact .refl _
 rintro i ⟨hi,hall⟩
 try dsimp only
 by_cases hlt:i<st.objects.length
 ·have hrow:(st.objects.map (ar.tw lo))[i]?=some [.int .i64 st.objects[i].kind,.int .i64 st.objects[i].class_,.sl lo 3 (st.objects[i].fields.map (ab.tw lo)),.sl lo 1 (aS st.objects[i].numbers)]:=aK hlt
  have hxi:=hex _ (hsm.2.1.2 _ (Zb hlt)) hc1
  have hta:=aY (p:=fun y=>hY st nb y=true) hlt hall
  clear hex
  cases hfi:hY st nb st.objects[i] with
  | false =>
    rw[hfo i hlt hfi]
    rw[hfi] at hxi
    generalize st.objects[i]=x at hrow hxi
    obtain⟨xk,xc,xf,xn⟩:=x
    dsimp only at hrow hxi
    repeat' (first|refine W_ ?_|(refine ak ?_;intro ss bb)|refine ac ?_|refine ae hG hst (hxi) ?_)
    exact r1_
  | true =>
    rw[hfi] at hxi hta
    generalize st.objects[i]=x at hrow hxi
    obtain⟨xk,xc,xf,xn⟩:=x
    dsimp only at hrow hxi
    repeat' (first|refine W_ ?_|(refine ak ?_;intro ss bb)|refine ac ?_|refine ae hG hst (hxi) ?_)
    exact ah (i+1) ⟨by omega,hta rfl⟩ (by omega) (.of _ nw_ od_ pk_)
 obtain rfl:i=st.objects.length:=by omega
 rw[Zc (Zg _)] at hall
 rw[List.all_eq_true.2 hall]
 repeat' refine W_ ?_
 exact r1_
end Go.Proofs.YtifcomgnmokimaaGreatDoor
