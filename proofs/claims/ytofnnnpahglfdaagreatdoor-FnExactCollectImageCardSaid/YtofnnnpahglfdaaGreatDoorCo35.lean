/- Part 35 of the proof: the texts ImE. -/
import Derived.Test.YtofnnnpahglfdaaGreatDoorCo28
import Derived.Test.YtofnnnpahglfdaaGreatDoorCo16
import Derived.Test.YtofnnnpahglfdaaGreatDoorCo12
set_option linter.all false
set_option maxHeartbeats 4000000
set_option maxRecDepth 20000
namespace Go.Proofs.YtofnnnpahglfdaaGreatDoor
open Go Go.RowKit
open Classical in
noncomputable def kb (st:aR) (nb:Int):Bool :=
 ci st.classes && (inR st.made st.objects.length 800 && (decide (st.output.length<=60) && (inR st.budget 0 3000 && (inR st.ticks 0 st.budget && (st.output.all gB && st.objects.all (f7 st nb))))))
theorem pG (t:ByteArray):j1 3 0 t=gB t:=by
 unfold j1
 rw[if_neg (by decide),if_neg (by decide),if_neg (by decide),if_pos rfl,decide_eq_true rfl,Zn]
theorem oS {G:World->Prop} (t:ByteArray):Ct Tryz.prog G 101 [.str t] (fun _=>.agg [.int .i64 3,.int .i64 0,.str t]):=by
 refine au Tryz.func101 rfl Tryz.ntmps101 rfl rfl fun w0 _ hG=>?_
 repeat' (first|refine W_ ?_|(refine am ?_;intro ss bb)|refine ac ?_|refine fg ?_)
 refine aM x_ rfl (.cell _ _ _ _ _ rfl mm_ (by kernel_rfl) (by kernel_rfl) (by kernel_rfl)) (fun _=>?_)
 exact my (.cons (.flat rfl) (.cons (.flat rfl) (.cons (.flat rfl) .nil)))
theorem vK (f lo:Nat) (st:aR) (hsm:st.small 1048576) (nb:Int):Ct Tryz.prog GL 98 [.cp f (st.tw lo),.int .i64 nb] (fun _=>.bool (kb st nb)):=by
 refine au Tryz.func98 rfl Tryz.ntmps98 rfl rfl fun w0 _ hG=>?_
 have hst:=d8
 have k1:=j6 hst lo st.classes hsm.1
 have k2:=bA (G:=GL) st.made st.objects.length 800
 have k4:=bA (G:=GL) st.budget 0 3000
 have k5:=bA (G:=GL) st.ticks 0 st.budget
 have hol:=ch st.output
 have hbl:=az.len lo st.objects
 have hcn:=aa.len lo st.classes
 have hz1:=hsm.2.1.1
 have hz2:=hsm.2.2.1
 have hex:=fun(o:az) (h:o.small 1048576) (hc:ci st.classes=true)=>vX f lo st (sq hc) (lr hc).1 nb o h
 have hln:=fun(t:ByteArray) (h:t.size<=1048576)=>gS 3 0 t h
 unfold kb
 unfold aR.tw at hex |-
 cases hc1:ci st.classes
 case false =>
   rw[hc1] at k1
   rw[Zl]
   repeat' (first|refine V_ ?_|refine ai hG hst (k1) ?_)
   exact r1_
 rw[hc1] at k1
 rw[Zn]
 cases hc2:inR st.made st.objects.length 800
 case false =>
   rw[hc2] at k2
   rw[Zl]
   repeat' (first|refine V_ ?_|refine ai hG hst (k1) ?_|refine ai hG hst (k2) ?_)
   exact r1_
 rw[hc2] at k2
 rw[Zn]
 by_cases hc3:st.output.length<=60
 case neg =>
   rw[decide_eq_false hc3,Zl]
   repeat' (first|refine V_ ?_|refine ai hG hst (k1) ?_|refine ai hG hst (k2) ?_)
   exact r1_
 rw[decide_eq_true hc3,Zn]
 cases hc4:inR st.budget 0 3000
 case false =>
   rw[hc4] at k4
   rw[Zl]
   repeat' (first|refine V_ ?_|refine ai hG hst (k1) ?_|refine ai hG hst (k2) ?_|refine ai hG hst (k4) ?_)
   exact r1_
 rw[hc4] at k4
 rw[Zn]
 cases hc5:inR st.ticks 0 st.budget
 case false =>
   rw[hc5] at k5
   rw[Zl]
   repeat' (first|refine V_ ?_|refine ai hG hst (k1) ?_|refine ai hG hst (k2) ?_|refine ai hG hst (k4) ?_|refine ai hG hst (k5) ?_)
   exact r1_
 rw[hc5] at k5
 rw[Zn]
 repeat' (first|refine V_ ?_|refine ai hG hst (k1) ?_|refine ai hG hst (k2) ?_|refine ai hG hst (k4) ?_|refine ai hG hst (k5) ?_)
 apply aj (X:=Nat) [0,1,4] (fun i=>[(5,.int .i64 (i:Int))]) (fun _=>[]) (fun i=>i<=st.output.length/\∀y∈st.output.take i,gB y=true) (fun i=>st.output.length - i) 0 ⟨Zd _,by simp⟩
 exact kp_;exact nw_
 ·exact .refl _
 rintro i ⟨hi,hall⟩
 try dsimp only
 by_cases hlt:i<st.output.length
 ·have hrow:=nH hlt
  have hxi:=hln _ (hsm.2.2.2 _ (Zb hlt))
  have hta:=bu (p:=fun y=>gB y=true) hlt hall
  cases hfi:gB st.output[i] with
  | false =>
    rw[show st.output.all gB=false from Bool.eq_false_iff.2 fun h=>(by rw[List.all_eq_true.1 h _ (Zb hlt)] at hfi;cases hfi),Zl]
    rw[pG] at hxi;rw[hfi] at hxi
    generalize st.output[i]=x at hrow hxi
    repeat' (first|refine W_ ?_|refine ad hG hst (oS (G:=GL) x) ?_|refine ad hG hst (hxi) ?_)
    exact r1_
  | true =>
    rw[pG] at hxi;rw[hfi] at hxi
    rw[hfi] at hta
    generalize st.output[i]=x at hrow hxi
    repeat' (first|refine W_ ?_|refine ad hG hst (oS (G:=GL) x) ?_|refine ad hG hst (hxi) ?_)
    exact ag (i+1) ⟨by omega,hta rfl⟩ (by omega) (.of _ nw_ od_ pk_)
 obtain rfl:i=st.output.length:=by omega
 rw[Zc (Zf _)] at hall
 rw[List.all_eq_true.2 hall,Zn]
 clear hln hall
 repeat' refine W_ ?_
 have hfo:∀i (h:i<st.objects.length),f7 st nb st.objects[i]=false->st.objects.all (f7 st nb)=false:=fun i h hf=>Bool.eq_false_iff.2 fun h2=>by
   rw[List.all_eq_true.1 h2 _ (Zb h)] at hf;cases hf
 apply aj (X:=Nat) [0,1,4] (fun i=>[(6,.int .i64 (i:Int))]) (fun _=>[]) (fun i=>i<=st.objects.length/\∀y∈st.objects.take i,f7 st nb y=true) (fun i=>st.objects.length - i) 0 ⟨Zd _,by simp⟩
 exact kp_;exact nw_
 ·exact .refl _
 rintro i ⟨hi,hall⟩
 try dsimp only
 by_cases hlt:i<st.objects.length
 ·have hrow:(st.objects.map (az.tw lo))[i]?=some [.int .i64 st.objects[i].kind,.int .i64 st.objects[i].class_,.sl lo 3 (st.objects[i].fields.map (ab.tw lo)),.sl lo 1 (aL st.objects[i].numbers)]:=aK hlt
  have hxi:=hex _ (hsm.2.1.2 _ (Zb hlt)) hc1
  have hta:=bu (p:=fun y=>f7 st nb y=true) hlt hall
  clear hex
  cases hfi:f7 st nb st.objects[i] with
  | false =>
    rw[hfo i hlt hfi]
    rw[hfi] at hxi
    generalize st.objects[i]=x at hrow hxi
    obtain⟨xk,xc,xf,xn⟩:=x
    dsimp only at hrow hxi
    repeat' (first|refine W_ ?_|refine ad hG hst (hxi) ?_)
    exact r1_
  | true =>
    rw[hfi] at hxi hta
    generalize st.objects[i]=x at hrow hxi
    obtain⟨xk,xc,xf,xn⟩:=x
    dsimp only at hrow hxi
    repeat' (first|refine W_ ?_|refine ad hG hst (hxi) ?_)
    exact ag (i+1) ⟨by omega,hta rfl⟩ (by omega) (.of _ nw_ od_ pk_)
 obtain rfl:i=st.objects.length:=by omega
 rw[Zc (Zf _)] at hall
 rw[List.all_eq_true.2 hall]
 repeat' refine W_ ?_
 exact r1_
theorem zD (lo:Nat) (st:aR) (hsm:st.small 1048576) (nb:Int):Ct Tryz.prog GL 118 [.agg (st.tw lo),.int .i64 nb] (fun _=>.bool (kb st nb)):=by
 refine au Tryz.func118 rfl Tryz.ntmps118 rfl rfl fun w0 _ hG=>?_
 have hst:=d8
 have k1:=mP hst lo st.classes hsm.1
 have k2:=aP (G:=GL) st.made st.objects.length 800
 have k4:=aP (G:=GL) st.budget 0 3000
 have k5:=aP (G:=GL) st.ticks 0 st.budget
 have hol:=ch st.output
 have hbl:=az.len lo st.objects
 have hcn:=aa.len lo st.classes
 have hz1:=hsm.2.1.1
 have hz2:=hsm.2.2.1
 have hex:=fun(o:az) (h:o.small 1048576) (hc:ci st.classes=true)=>wZ lo st (sq hc) (lr hc).1 nb o h
 have hln:=fun(t:ByteArray) (h:t.size<=1048576)=>pe hst t h
 unfold kb
 unfold aR.tw at hex |-
 cases hc1:ci st.classes
 case false =>
   rw[hc1] at k1
   rw[Zl]
   repeat' (first|refine W_ ?_|refine aN ?_|refine ad hG hst (k1) ?_)
   exact r1_
 rw[hc1] at k1
 rw[Zn]
 cases hc2:inR st.made st.objects.length 800
 case false =>
   rw[hc2] at k2
   rw[Zl]
   repeat' (first|refine W_ ?_|refine aN ?_|refine ad hG hst (k1) ?_|refine ad hG hst (k2) ?_)
   exact r1_
 rw[hc2] at k2
 rw[Zn]
 by_cases hc3:st.output.length<=60
 case neg =>
   rw[decide_eq_false hc3,Zl]
   repeat' (first|refine W_ ?_|refine aN ?_|refine ad hG hst (k1) ?_|refine ad hG hst (k2) ?_)
   exact r1_
 rw[decide_eq_true hc3,Zn]
 cases hc4:inR st.budget 0 3000
 case false =>
   rw[hc4] at k4
   rw[Zl]
   repeat' (first|refine W_ ?_|refine aN ?_|refine ad hG hst (k1) ?_|refine ad hG hst (k2) ?_|refine ad hG hst (k4) ?_)
   exact r1_
 rw[hc4] at k4
 rw[Zn]
 cases hc5:inR st.ticks 0 st.budget
 case false =>
   rw[hc5] at k5
   rw[Zl]
   repeat' (first|refine W_ ?_|refine aN ?_|refine ad hG hst (k1) ?_|refine ad hG hst (k2) ?_|refine ad hG hst (k4) ?_|refine ad hG hst (k5) ?_)
   exact r1_
 rw[hc5] at k5
 rw[Zn]
 repeat' (first|refine W_ ?_|refine aN ?_|refine ad hG hst (k1) ?_|refine ad hG hst (k2) ?_|refine ad hG hst (k4) ?_|refine ad hG hst (k5) ?_)
 apply aj (X:=Nat) [1,2,4,43,44] (fun i=>[(45,.int .i64 (i:Int))]) (fun _=>[]) (fun i=>i<=st.output.length/\∀y∈st.output.take i,gB y=true) (fun i=>st.output.length - i) 0 ⟨Zd _,by simp⟩
 exact kp_;exact nw_
 ·exact .refl _
 rintro i ⟨hi,hall⟩
 try dsimp only
 by_cases hlt:i<st.output.length
 ·have hrow:=nH hlt
  have hxi:=hln _ (hsm.2.2.2 _ (Zb hlt))
  have hta:=bu (p:=fun y=>gB y=true) hlt hall
  cases hfi:gB st.output[i] with
  | false =>
    rw[show st.output.all gB=false from Bool.eq_false_iff.2 fun h=>(by rw[List.all_eq_true.1 h _ (Zb hlt)] at hfi;cases hfi),Zl]
    rw[hfi] at hxi
    generalize st.output[i]=x at hrow hxi
    repeat' (first|refine W_ ?_|refine ad hG hst (hxi) ?_)
    exact r1_
  | true =>
    rw[hfi] at hxi
    rw[hfi] at hta
    generalize st.output[i]=x at hrow hxi
    repeat' (first|refine W_ ?_|refine ad hG hst (hxi) ?_)
    exact ag (i+1) ⟨by omega,hta rfl⟩ (by omega) (.of _ nw_ od_ pk_)
 obtain rfl:i=st.output.length:=by omega
 rw[Zc (Zf _)] at hall
 rw[List.all_eq_true.2 hall,Zn]
 clear hln hall
 repeat' refine W_ ?_
 have hfo:∀i (h:i<st.objects.length),f7 st nb st.objects[i]=false->st.objects.all (f7 st nb)=false:=fun i h hf=>Bool.eq_false_iff.2 fun h2=>by
   rw[List.all_eq_true.1 h2 _ (Zb h)] at hf;cases hf
 apply aj (X:=Nat) [1,2,4,54,55] (fun i=>[(56,.int .i64 (i:Int))]) (fun _=>[]) (fun i=>i<=st.objects.length/\∀y∈st.objects.take i,f7 st nb y=true) (fun i=>st.objects.length - i) 0 ⟨Zd _,by simp⟩
 exact kp_;exact nw_
 ·exact .refl _
 rintro i ⟨hi,hall⟩
 try dsimp only
 by_cases hlt:i<st.objects.length
 ·have hrow:(st.objects.map (az.tw lo))[i]?=some [.int .i64 st.objects[i].kind,.int .i64 st.objects[i].class_,.sl lo 3 (st.objects[i].fields.map (ab.tw lo)),.sl lo 1 (aL st.objects[i].numbers)]:=aK hlt
  have hxi:=hex _ (hsm.2.1.2 _ (Zb hlt)) hc1
  have hta:=bu (p:=fun y=>f7 st nb y=true) hlt hall
  clear hex
  cases hfi:f7 st nb st.objects[i] with
  | false =>
    rw[hfo i hlt hfi]
    rw[hfi] at hxi
    generalize st.objects[i]=x at hrow hxi
    obtain⟨xk,xc,xf,xn⟩:=x
    dsimp only at hrow hxi
    repeat' (first|refine W_ ?_|(refine am ?_;intro ss bb)|refine ac ?_|refine ad hG hst (hxi) ?_)
    exact r1_
  | true =>
    rw[hfi] at hxi hta
    generalize st.objects[i]=x at hrow hxi
    obtain⟨xk,xc,xf,xn⟩:=x
    dsimp only at hrow hxi
    repeat' (first|refine W_ ?_|(refine am ?_;intro ss bb)|refine ac ?_|refine ad hG hst (hxi) ?_)
    exact ag (i+1) ⟨by omega,hta rfl⟩ (by omega) (.of _ nw_ od_ pk_)
 obtain rfl:i=st.objects.length:=by omega
 rw[Zc (Zf _)] at hall
 rw[List.all_eq_true.2 hall]
 repeat' refine W_ ?_
 exact r1_
end Go.Proofs.YtofnnnpahglfdaaGreatDoor
