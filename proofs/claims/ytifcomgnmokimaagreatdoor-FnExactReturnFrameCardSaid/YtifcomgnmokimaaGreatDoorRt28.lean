/- Part 28 of the proof: the texts ImD. -/
import Derived.Test.YtifcomgnmokimaaGreatDoorRt24
set_option linter.all false
set_option maxHeartbeats 4000000
set_option maxRecDepth 20000
namespace Go.Proofs.YtifcomgnmokimaaGreatDoor
open Go Go.RowKit
theorem xX {l:List Int}:nnL l↔∀j,j<l.length->0<=l.getD j 0:=by
 constructor
 ·intro h j hj
  rw[ZT,Za hj]
  exact h _ (Zb hj)
 ·intro h n hn
  obtain⟨j,hj,rfl⟩:=ZD hn
  have:=h j hj
  rwa [ZT,Za hj] at this
theorem uo (f lo:Nat) (st:aQ) (hcl:iA st.classes) (h16:16<=st.classes.length/\st.classes.length<=24) (nb:Int) (o:ar) (ho:o.small 1048576) (hk:o.kind=1):Ct Tryz.prog GL 162 [.cp f (st.tw lo),.agg [.int .i64 o.kind,.int .i64 o.class_,.sl lo 3 (o.fields.map (ab.tw lo)),.sl lo 1 (aS o.numbers)],.int .i64 nb] (fun _=>.bool (hY st nb o)):=by
 refine av Tryz.func162 rfl Tryz.ntmps162 rfl rfl fun w0 _ hG=>?_
 have hst:=en
 obtain⟨ok,oc,fs,ns⟩:=o
 have hf1:=ho.1.1
 have hf2:=ho.1.2
 have hn1:=ho.2
 dsimp only at hf1 hf2 hn1 hk |-
 subst hk
 have hfl:=ab.len lo fs
 have hnl:=aj ns
 have hcn:=aa.len lo st.classes
 have hex:=fun(x:ab) (h:x.text.size<=1048576)=>fh f lo st nb x h
 unfold aQ.tw at hex |-
 repeat' (first|refine W_ ?_|refine aJ ?_)
 apply ap (X:=Nat) [0,2,4,6] (fun i=>[(7,.int .i64 (i:Int))]) (fun _=>[]) (fun i=>i<=fs.length/\∀y∈fs.take i,cD st nb y=true) (fun i=>fs.length - i) 0 ⟨Ze _,by simp⟩
 exact kp_;exact nw_
 ·exact .refl _
 rintro i ⟨hi,hall⟩
 try dsimp only
 by_cases hlt:i<fs.length
 ·have hrow:=kO (lo:=lo) hlt
  have hxi:=hex _ (hf2 _ (Zb hlt))
  have hta:=aY (p:=fun y=>cD st nb y=true) hlt hall
  cases hfi:cD st nb fs[i] with
  | false =>
    have e:hY st nb ⟨1,oc,fs,ns⟩=false:=by
      unfold hY
      rw[fB hlt hfi,Zl]
    rw[e]
    rw[hfi] at hxi
    generalize fs[i]=x at hrow hxi
    repeat' (first|refine W_ ?_|refine ae hG hst (hxi) ?_)
    exact r1_
  | true =>
    rw[hfi] at hxi hta
    generalize fs[i]=x at hrow hxi
    repeat' (first|refine W_ ?_|refine ae hG hst (hxi) ?_)
    exact ah (i+1) ⟨by omega,hta rfl⟩ (by omega) (.of _ nw_ od_ pk_)
 obtain rfl:i=fs.length:=by omega
 rw[Zc (Zg _)] at hall
 have hA:fs.all (cD st nb)=true:=List.all_eq_true.2 hall
 clear hex hall
 have e:hY st nb ⟨1,oc,fs,ns⟩=(decide ((0<=oc/\oc<st.classes.length)/\¬ (5<=oc/\oc<=15)/\fs.length=afA st.classes oc) && decide (ns.length=if wJ st.classes 1 oc then 3 else 0)):=by
   unfold hY
   rw[hA,Zn,if_pos rfl]
 rw[e]
 clear e hA
 have w1:=bC (G:=GL) oc 1 4
 have w2:=bC (G:=GL) oc 16 ((st.classes.length:Int) - 1)
 have hib:=yW (G:=GL) lo st.classes hcl oc 1 (by omega)
 generalize wJ st.classes 1 oc=b at hib |-
 rw[show (st.classes.length:Int) - 1=((st.classes.length - 1:Nat):Int) by omega] at w2
 by_cases hr:(0<=oc/\oc<st.classes.length)/\¬ (5<=oc/\oc<=15)
 case neg =>
   rw[show inR oc 16 ((st.classes.length - 1:Nat):Int)=false from by simp only[inR,decide_eq_false_iff_not];omega] at w2
   rw[show inR oc 1 4=false from by simp only[inR,decide_eq_false_iff_not];omega] at w1
   have hoc:¬ oc=0:=by omega
   rw[decide_eq_false fun h=>hr ⟨h.1,h.2.1⟩,Zl]
   cases b
   all_goals
     repeat' (first|refine V_ ?_|refine ai hG hst (w1) ?_|refine ai hG hst (w2) ?_|refine ai hG hst (hib) ?_)
     exact r1_
 obtain⟨c,rfl⟩:∃c:Nat,oc=c:=⟨oc.toNat,by omega⟩
 have hc:c<st.classes.length:=by omega
 have hrow:=jy (lo:=lo) hc
 have hfn:afA st.classes (c:Int)=st.classes[c].fields.length:=by
   unfold afA
   rw[ZB,Za hc]
 rw[hfn]
 generalize st.classes[c]=x at hrow hfn |-
 have hxl:=cg x.fields
 have hd:decide ((0<=(c:Int)/\(c:Int)<st.classes.length)/\¬ (5<=(c:Int)/\(c:Int)<=15)/\fs.length=x.fields.length)=decide (fs.length=x.fields.length):=by
   rw[decide_eq_decide]
   exact⟨fun h=>h.2.2,fun h=>⟨hr.1,hr.2,h⟩⟩
 rw[hd]
 have h3:(c:Int)=0\/(¬ (c:Int)=0/\inR c 1 4=true)\/(¬ (c:Int)=0/\inR c 1 4=false/\inR c 16 ((st.classes.length - 1:Nat):Int)=true):=by
   simp only[inR,decide_eq_true_eq,decide_eq_false_iff_not];omega
 by_cases hlen:fs.length=x.fields.length
 case neg =>
   have hne:¬ (fs.length:Int)=x.fields.length:=by omega
   rw[decide_eq_false hlen,Zl]
   rcases h3 with h0|⟨n0,i1⟩|⟨n0,i1,i2⟩
   case' inr.inl=>rw[i1] at w1
   case' inr.inr=>rw[i1] at w1;rw[i2] at w2
   all_goals
     cases b
     all_goals
       repeat' (first|refine V_ ?_|refine ai hG hst (w1) ?_|refine ai hG hst (w2) ?_|refine ai hG hst (hib) ?_)
       all_goals
         exact r1_
 have hne:(fs.length:Int)=x.fields.length:=by omega
 rw[decide_eq_true hlen,Zn]
 rcases h3 with h0|⟨n0,i1⟩|⟨n0,i1,i2⟩
 case' inr.inl=>rw[i1] at w1
 case' inr.inr=>rw[i1] at w1;rw[i2] at w2
 all_goals
   cases b
   all_goals
     repeat' (first|refine V_ ?_|refine ai hG hst (w1) ?_|refine ai hG hst (w2) ?_|refine ai hG hst (hib) ?_)
     all_goals
       refine aN x_ rfl (.tmp _ _ rfl) (fun _=>?_)
       exact aL (by first|(simp;done)|(simp;omega))
theorem tX (f lo:Nat) (st:aQ) (hcl:iA st.classes) (h16:16<=st.classes.length/\st.classes.length<=24) (nb:Int) (o:ar) (ho:o.small 1048576) (hk:o.kind=2):Ct Tryz.prog GL 162 [.cp f (st.tw lo),.agg [.int .i64 o.kind,.int .i64 o.class_,.sl lo 3 (o.fields.map (ab.tw lo)),.sl lo 1 (aS o.numbers)],.int .i64 nb] (fun _=>.bool (hY st nb o)):=by
 refine av Tryz.func162 rfl Tryz.ntmps162 rfl rfl fun w0 _ hG=>?_
 have hst:=en
 obtain⟨ok,oc,fs,ns⟩:=o
 have hf1:=ho.1.1
 have hf2:=ho.1.2
 have hn1:=ho.2
 dsimp only at hf1 hf2 hn1 hk |-
 subst hk
 have hfl:=ab.len lo fs
 have hnl:=aj ns
 have hcn:=aa.len lo st.classes
 have hex:=fun(x:ab) (h:x.text.size<=1048576)=>fh f lo st nb x h
 unfold aQ.tw at hex |-
 repeat' (first|refine W_ ?_|refine aJ ?_)
 apply ap (X:=Nat) [0,2,4,6] (fun i=>[(7,.int .i64 (i:Int))]) (fun _=>[]) (fun i=>i<=fs.length/\∀y∈fs.take i,cD st nb y=true) (fun i=>fs.length - i) 0 ⟨Ze _,by simp⟩
 exact kp_;exact nw_
 ·exact .refl _
 rintro i ⟨hi,hall⟩
 try dsimp only
 by_cases hlt:i<fs.length
 ·have hrow:=kO (lo:=lo) hlt
  have hxi:=hex _ (hf2 _ (Zb hlt))
  have hta:=aY (p:=fun y=>cD st nb y=true) hlt hall
  cases hfi:cD st nb fs[i] with
  | false =>
    have e:hY st nb ⟨2,oc,fs,ns⟩=false:=by
      unfold hY
      rw[fB hlt hfi,Zl]
    rw[e]
    rw[hfi] at hxi
    generalize fs[i]=x at hrow hxi
    repeat' (first|refine W_ ?_|refine ae hG hst (hxi) ?_)
    exact r1_
  | true =>
    rw[hfi] at hxi hta
    generalize fs[i]=x at hrow hxi
    repeat' (first|refine W_ ?_|refine ae hG hst (hxi) ?_)
    exact ah (i+1) ⟨by omega,hta rfl⟩ (by omega) (.of _ nw_ od_ pk_)
 obtain rfl:i=fs.length:=by omega
 rw[Zc (Zg _)] at hall
 have hA:fs.all (cD st nb)=true:=List.all_eq_true.2 hall
 clear hex hall
 have e:hY st nb ⟨2,oc,fs,ns⟩=decide (oc=10/\fs.length<=50/\ns.length=0):=by
   unfold hY
   rw[hA,Zn,if_neg (by dsimp only;decide),if_pos rfl]
 rw[e]
 clear e hA
 repeat' (first|refine W_ ?_|refine g_ (fun hg=>?_) (fun hg=>?_))
 all_goals
   refine aN x_ rfl (.tmp _ _ rfl) (fun _=>?_)
   refine aL ?_
   first
     | (rw[decide_eq_decide];omega)
     | (symm;rw[decide_eq_false_iff_not];omega)
theorem uq (f lo:Nat) (st:aQ) (hcl:iA st.classes) (h16:16<=st.classes.length/\st.classes.length<=24) (nb:Int) (o:ar) (ho:o.small 1048576) (hk:o.kind=3):Ct Tryz.prog GL 162 [.cp f (st.tw lo),.agg [.int .i64 o.kind,.int .i64 o.class_,.sl lo 3 (o.fields.map (ab.tw lo)),.sl lo 1 (aS o.numbers)],.int .i64 nb] (fun _=>.bool (hY st nb o)):=by
 refine av Tryz.func162 rfl Tryz.ntmps162 rfl rfl fun w0 _ hG=>?_
 have hst:=en
 obtain⟨ok,oc,fs,ns⟩:=o
 have hf1:=ho.1.1
 have hf2:=ho.1.2
 have hn1:=ho.2
 dsimp only at hf1 hf2 hn1 hk |-
 subst hk
 have hfl:=ab.len lo fs
 have hnl:=aj ns
 have hcn:=aa.len lo st.classes
 have hex:=fun(x:ab) (h:x.text.size<=1048576)=>fh f lo st nb x h
 unfold aQ.tw at hex |-
 repeat' (first|refine W_ ?_|refine aJ ?_)
 apply ap (X:=Nat) [0,2,4,6] (fun i=>[(7,.int .i64 (i:Int))]) (fun _=>[]) (fun i=>i<=fs.length/\∀y∈fs.take i,cD st nb y=true) (fun i=>fs.length - i) 0 ⟨Ze _,by simp⟩
 exact kp_;exact nw_
 ·exact .refl _
 rintro i ⟨hi,hall⟩
 try dsimp only
 by_cases hlt:i<fs.length
 ·have hrow:=kO (lo:=lo) hlt
  have hxi:=hex _ (hf2 _ (Zb hlt))
  have hta:=aY (p:=fun y=>cD st nb y=true) hlt hall
  cases hfi:cD st nb fs[i] with
  | false =>
    have e:hY st nb ⟨3,oc,fs,ns⟩=false:=by
      unfold hY
      rw[fB hlt hfi,Zl]
    rw[e]
    rw[hfi] at hxi
    generalize fs[i]=x at hrow hxi
    repeat' (first|refine W_ ?_|refine ae hG hst (hxi) ?_)
    exact r1_
  | true =>
    rw[hfi] at hxi hta
    generalize fs[i]=x at hrow hxi
    repeat' (first|refine W_ ?_|refine ae hG hst (hxi) ?_)
    exact ah (i+1) ⟨by omega,hta rfl⟩ (by omega) (.of _ nw_ od_ pk_)
 obtain rfl:i=fs.length:=by omega
 rw[Zc (Zg _)] at hall
 have hA:fs.all (cD st nb)=true:=List.all_eq_true.2 hall
 clear hex hall
 have e:hY st nb ⟨3,oc,fs,ns⟩=decide (oc=12/\fs.length=0/\1<=ns.length/\nnL ns):=by
   unfold hY
   rw[hA,Zn,if_neg (by dsimp only;decide),if_neg (by dsimp only;decide),if_pos rfl]
 rw[e]
 clear e hA
 by_cases hns:0<ns.length
 case neg =>
   repeat' (first|refine V_ ?_|refine g_ (fun hg=>?_) (fun hg=>?_))
   all_goals
     refine aN x_ rfl (.tmp _ _ rfl) (fun _=>?_)
     refine aL ?_
     first
       | (symm;rw[decide_eq_false_iff_not];omega)
       | (symm;rw[decide_eq_false_iff_not];rintro ⟨_,_,h,_⟩;omega)
 have hr0:(aS ns)[0]?=some [.int .i64 (ns.getD 0 0)]:=by
   rw[lE hns,ZT,Za hns];rfl
 by_cases hc1:oc=12/\fs.length=0
 case neg =>
   rw[decide_eq_false fun h=>hc1 ⟨h.1,h.2.1⟩]
   generalize ns.getD 0 0=v0 at hr0
   repeat' (first|refine V_ ?_|refine g_ (fun hg=>?_) (fun hg=>?_))
   all_goals
     exact r1_
 by_cases hv0:ns.getD 0 0<0
 case pos =>
   rw[decide_eq_false fun h=>by
     have:=h.2.2.2 _ (Zb hns)
     rw[ZT,Za hns] at hv0
     exact absurd hv0 (by simpa using this)]
   generalize ns.getD 0 0=v0 at hr0 hv0
   repeat' refine V_ ?_
   all_goals
     exact r1_
 have hd:decide (oc=12/\fs.length=0/\1<=ns.length/\nnL ns)=decide (nnL ns):=by
   rw[decide_eq_decide]
   exact⟨fun h=>h.2.2.2,fun h=>⟨hc1.1,hc1.2,hns,h⟩⟩
 rw[hd]
 generalize hg0:ns.getD 0 0=v0 at hr0 hv0
 repeat' refine V_ ?_
 apply ap (X:=Nat) [0,2,4,6] (fun i=>[(10,.int .i64 ((i:Int)+1))]) (fun _=>[]) (fun i=>i<ns.length/\∀j,j<=i->0<=ns.getD j 0) (fun i=>ns.length - i) 0 ⟨hns,fun j hj=>by rw[Nat.le_zero.1 hj,hg0];omega⟩
 exact kp_;exact nw_
 ·exact .refl _
 rintro i ⟨hi2,hall⟩
 try dsimp only
 by_cases hl2:i+1<ns.length
 ·have hrow:(aS ns)[i+1]?=some [.int .i64 (ns.getD (i+1) 0)]:=by
    rw[lE hl2,ZT,Za hl2];rfl
  have hi1:(i:Int)+1=((i+1:Nat):Int):=by omega
  rw[hi1]
  by_cases hv:ns.getD (i+1) 0<0
  ·rw[decide_eq_false (fun h=>by have:=xX.1 h _ hl2;omega:¬ nnL ns)]
   generalize ns.getD (i+1) 0=v at hrow hv
   repeat' refine W_ ?_
   exact r1_
  ·have hall2:∀j,j<=i+1->0<=ns.getD j 0:=fun j hj=>by
     rcases YB j (i+1) with h|h
     ·exact hall j (by omega)
     ·obtain rfl:j=i+1:=by omega
      omega
   generalize ns.getD (i+1) 0=v at hrow hv
   repeat' refine W_ ?_
   exact ah (i+1) ⟨hl2,hall2⟩ (by omega) (.of _ nw_ od_ pk_)
 ·obtain rfl:i=ns.length - 1:=by omega
  rw[decide_eq_true (xX.2 fun j hj=>hall j (by omega))]
  rw[show ((ns.length - 1:Nat):Int)+1=(ns.length:Int) by omega]
  repeat' refine W_ ?_
  exact r1_
theorem uY (f lo:Nat) (st:aQ) (hcl:iA st.classes) (h16:16<=st.classes.length/\st.classes.length<=24) (nb:Int) (o:ar) (ho:o.small 1048576) (hk:¬ o.kind=1/\¬ o.kind=2/\¬ o.kind=3):Ct Tryz.prog GL 162 [.cp f (st.tw lo),.agg [.int .i64 o.kind,.int .i64 o.class_,.sl lo 3 (o.fields.map (ab.tw lo)),.sl lo 1 (aS o.numbers)],.int .i64 nb] (fun _=>.bool (hY st nb o)):=by
 refine av Tryz.func162 rfl Tryz.ntmps162 rfl rfl fun w0 _ hG=>?_
 have hst:=en
 obtain⟨ok,oc,fs,ns⟩:=o
 have hf1:=ho.1.1
 have hf2:=ho.1.2
 have hn1:=ho.2
 dsimp only at hf1 hf2 hn1 hk |-
 obtain⟨g1,g2,g3⟩:=hk
 have hfl:=ab.len lo fs
 have hnl:=aj ns
 have hcn:=aa.len lo st.classes
 have hex:=fun(x:ab) (h:x.text.size<=1048576)=>fh f lo st nb x h
 unfold aQ.tw at hex |-
 repeat' (first|refine W_ ?_|refine aJ ?_)
 apply ap (X:=Nat) [0,2,4,6] (fun i=>[(7,.int .i64 (i:Int))]) (fun _=>[]) (fun i=>i<=fs.length/\∀y∈fs.take i,cD st nb y=true) (fun i=>fs.length - i) 0 ⟨Ze _,by simp⟩
 exact kp_;exact nw_
 ·exact .refl _
 rintro i ⟨hi,hall⟩
 try dsimp only
 by_cases hlt:i<fs.length
 ·have hrow:=kO (lo:=lo) hlt
  have hxi:=hex _ (hf2 _ (Zb hlt))
  have hta:=aY (p:=fun y=>cD st nb y=true) hlt hall
  cases hfi:cD st nb fs[i] with
  | false =>
    have e:hY st nb ⟨ok,oc,fs,ns⟩=false:=by
      unfold hY
      rw[fB hlt hfi,Zl]
    rw[e]
    rw[hfi] at hxi
    generalize fs[i]=x at hrow hxi
    repeat' (first|refine W_ ?_|refine ae hG hst (hxi) ?_)
    exact r1_
  | true =>
    rw[hfi] at hxi hta
    generalize fs[i]=x at hrow hxi
    repeat' (first|refine W_ ?_|refine ae hG hst (hxi) ?_)
    exact ah (i+1) ⟨by omega,hta rfl⟩ (by omega) (.of _ nw_ od_ pk_)
 obtain rfl:i=fs.length:=by omega
 rw[Zc (Zg _)] at hall
 have hA:fs.all (cD st nb)=true:=List.all_eq_true.2 hall
 clear hex hall
 have e:hY st nb ⟨ok,oc,fs,ns⟩=false:=by
   unfold hY
   rw[if_neg g1,if_neg g2,if_neg g3,YD]
 rw[e]
 repeat' refine W_ ?_
 exact r1_
theorem xe (f lo:Nat) (st:aQ) (hcl:iA st.classes) (h16:16<=st.classes.length/\st.classes.length<=24) (nb:Int) (o:ar) (ho:o.small 1048576):Ct Tryz.prog GL 162 [.cp f (st.tw lo),.agg [.int .i64 o.kind,.int .i64 o.class_,.sl lo 3 (o.fields.map (ab.tw lo)),.sl lo 1 (aS o.numbers)],.int .i64 nb] (fun _=>.bool (hY st nb o)):=by
 rcases uB o.kind with h|h|h|h
 ·exact uo f lo st hcl h16 nb o ho h
 ·exact tX f lo st hcl h16 nb o ho h
 ·exact uq f lo st hcl h16 nb o ho h
 ·exact uY f lo st hcl h16 nb o ho h
end Go.Proofs.YtifcomgnmokimaaGreatDoor
