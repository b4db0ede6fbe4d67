/- Part 37 of the proof: the texts ImL. -/
import Derived.Test.YtifcomgnmokimaaGreatDoorRt32
import Derived.Test.YtifcomgnmokimaaGreatDoorRt24
set_option linter.all false
set_option maxHeartbeats 4000000
set_option maxRecDepth 20000
namespace Go.Proofs.YtifcomgnmokimaaGreatDoor
open Go Go.RowKit
theorem acS {m:ad} {o:List Int} {k:Int} {c:ao} {l:List ab} (hl:l∈[[c.self],c.slots,c.stack,c.values]) (hf:pS m l=false):qI m o k c=false:=by
 have e:pS m [c.self]=cD m.store m.blocks.length c.self:=by simp[pS]
 simp only[ZX,ZP,or_false] at hl
 unfold qI
 rcases hl with rfl|rfl|rfl|rfl
 ·rw[e] at hf;rw[hf];simp
 ·rw[hf];simp
 ·rw[hf];simp
 ·rw[hf];simp
theorem abt {m:ad} {o:List Int} {k:Int} {c:ao} (hs:inR c.sender (-1) (k - 1)=true) (h:∀l∈[[c.self],c.slots,c.stack,c.values],pS m l=true):cD m.store m.blocks.length c.self=true/\pS m c.values=true/\qI m o k c=(if c.mark=0 then plB m o k c else shB c && (tK m k c && afa c)):=by
 have e:pS m [c.self]=cD m.store m.blocks.length c.self:=by simp[pS]
 have h1:=h [c.self] (by simp)
 have h2:=h c.slots (by simp)
 have h3:=h c.stack (by simp)
 have h4:=h c.values (by simp)
 rw[e] at h1
 refine⟨h1,h4, ?_⟩
 unfold qI
 rw[hs,h1,h2,h3,h4];simp only[Zn]
theorem uX (lo l2:Nat) (m:ad) (hsm:m.small 1048576) (hcl:iA m.store.classes) (hc1:1<=m.base.codes.length) (hbc:∀b∈m.blocks,0<=b.code/\b.code<m.base.codes.length) (o:List Int) (ho:o.length=m.base.codes.length) (k:Nat) (hk:k<m.contexts.length):Ct Tryz.prog GL 104 [.agg (m.tw lo),.sl l2 1 (aS o),.int .i64 (k:Int)] (fun _=>.bool (qI m o k m.contexts[k])):=by
 refine av Tryz.func104 rfl Tryz.ntmps104 rfl rfl fun w0 _ hG=>?_
 have hst:=en
 have hrow:=dI (lo:=lo) hk
 have hlx:=ao.len lo m.contexts
 have hlc:=aB.len lo m.base.codes
 have hxl:=hsm.2.2.2.1.1
 have hcl2:=hsm.1.2.1.1
 have hol:=aj o
 have hgo:=fun(j:Nat) (h:j<o.length)=>fG (o:=o) h
 have hxi:=fun(i:Nat) (h:i<m.contexts.length)=>yr (m:=m) h rfl
 have hci:=fun(i:Nat) (h:i<m.base.codes.length)=>yS (m:=m) h rfl
 have hxr:=fun(i:Nat) (h:i<m.contexts.length)=>dI (lo:=lo) (l:=m.contexts) h
 have hcr:=fun(i:Nat) (h:i<m.base.codes.length)=>cj (lo:=lo) (cs:=m.base.codes) h
 have hsc:=hsm.2.2.2.1.2 _ (Zb hk)
 have hMk:=fun hv=>aci lo m hsm hcl hbc k hk hv
 have hex:=fun(x:ab) (h:x.text.size<=1048576)=>lD lo m.store m.blocks.length x h
 have hbl:=aq.len lo m.blocks
 have hbl1:=hsm.2.2.1.1
 have hcn:=hsm.1.2.1.2
 clear hsm hcl
 unfold aQ.tw at hex
 generalize m.contexts[k]=c at hrow hsc hMk |-
 have hbad:=fun(l:List ab) hl hf=>acS (m:=m) (o:=o) (k:=(k:Int)) (c:=c) (l:=l) hl hf
 have hgood:=fun hs h=>abt (m:=m) (o:=o) (k:=(k:Int)) (c:=c) hs h
 obtain⟨mk,cc,pc,sd,ou,hm,⟨sk,sn,st⟩,slots,stack,values,oth,rt⟩:=c
 dsimp only at hbad hgood hrow hMk |-
 have k1:=aP (G:=GL) sd (-1) ((k:Int) - 1)
 have hsl1:=hsc.2.1.1
 have hst1:=hsc.2.2.1.1
 have hvl1:=hsc.2.2.2.1
 dsimp only at hsl1 hst1 hvl1
 have hvl:=ab.len lo values
 have hsl:=ab.len lo slots
 have htl:=ab.len lo stack
 have hAm:=kR (m:=m) (l:=values)
 unfold ad.tw at hMk |-
 cases hb1:inR sd (-1) ((k:Int) - 1)
 case false =>
   rw[hb1] at k1
   rw[show qI m o k _=false from by unfold qI;dsimp only;rw[hb1,Zl]]
   repeat' (first|refine W_ ?_|refine aJ ?_|(refine ak ?_;intro ss bb)|refine ac ?_|refine ae hG hst (k1) ?_)
   exact r1_
 rw[hb1] at k1
 replace hgood:=hgood hb1
 have hLL:∀l∈[[⟨sk,sn,st⟩],slots,stack,values],l.length<=1048576/\∀y∈l,ab.small 1048576 y:=fun l hl=>by
   simp only[ZX,ZP,or_false] at hl
   rcases hl with rfl|rfl|rfl|rfl
   ·exact⟨by simp,fun y hy=>by rw[List.mem_singleton.1 hy];exact hsc.1⟩
   ·exact hsc.2.1
   ·exact hsc.2.2.1
   ·exact hsc.2.2.2
 have hrows:∀i,i<4->∃f l,[[TV.sl w0.heap.size 3 [[.int .i64 sk,.int .i64 sn,.str st]]],[.sl lo 3 (slots.map (ab.tw lo))],[.sl lo 3 (stack.map (ab.tw lo))],[.sl lo 3 (values.map (ab.tw lo))]][i]?=some [.sl f 3 (l.map (ab.tw lo))]/\[[⟨sk,sn,st⟩],slots,stack,values][i]?=some l:=fun i hi=>by
   match i,hi with
   | 0,_=>exact⟨_,_,rfl,rfl⟩
   | 1,_=>exact⟨_,_,rfl,rfl⟩
   | 2,_=>exact⟨_,_,rfl,rfl⟩
   | 3,_=>exact⟨_,_,rfl,rfl⟩
 clear hsc
 repeat' (first|refine W_ ?_|refine aJ ?_|(refine ak ?_;intro ss bb)|refine ac ?_|refine ef ?_|refine ae hG hst (k1) ?_)
 generalize ss=s7;generalize bb=b7
 have hrl:([[TV.sl w0.heap.size 3 [[.int .i64 sk,.int .i64 sn,.str st]]],[.sl lo 3 (slots.map (ab.tw lo))],[.sl lo 3 (stack.map (ab.tw lo))],[.sl lo 3 (values.map (ab.tw lo))]]:List (List TV)).length=4:=rfl
 have hLl:([[⟨sk,sn,st⟩],slots,stack,values]:List (List ab)).length=4:=rfl
 generalize [[TV.sl w0.heap.size 3 [[.int .i64 sk,.int .i64 sn,.str st]]],[.sl lo 3 (slots.map (ab.tw lo))],[.sl lo 3 (stack.map (ab.tw lo))],[.sl lo 3 (values.map (ab.tw lo))]]=rows at hrows hrl |-
 generalize ([[⟨sk,sn,st⟩],slots,stack,values]:List (List ab))=LL at hLL hLl hrows hbad hgood
 apply ap (X:=Nat) [1,2,3,7,34,35] (fun i=>[(36,.int .i64 (i:Int))]) (fun _=>[(s7,b7,.box [.int .i64 mk,.int .i64 cc,.int .i64 pc,.int .i64 sd,.int .i64 ou,.int .i64 hm,.int .i64 sk,.int .i64 sn,.str st,.sl lo 3 (slots.map (ab.tw lo)),.sl lo 3 (stack.map (ab.tw lo)),.sl lo 3 (values.map (ab.tw lo)),.int .i64 oth,.bool rt])]) (fun i=>i<=4/\∀l∈LL.take i,pS m l=true) (fun i=>4 - i) 0 ⟨by omega,by simp⟩
 exact kp_;exact nw_
 ·exact .refl _
 rintro i ⟨hi,hall⟩
 try dsimp only
 by_cases hlt:i<4
 ·obtain⟨f,l,hrow4,hl4⟩:=hrows i hlt
  have hli:=hLL l (Zm hl4)
  have hll:=ab.len lo l
  have hli1:=hli.1
  have hta:=aY (p:=fun l=>pS m l=true) (l:=LL) (i:=i) (by omega) hall
  obtain⟨hi4,hel⟩:=List.getElem?_eq_some_iff.1 hl4
  rw[hel] at hta
  repeat' refine W_ ?_
  apply ap (X:=Nat) [1,2,3,7,34,35,36,40,41] (fun j=>[(42,.int .i64 (j:Int))]) (fun _=>[(s7,b7,.box [.int .i64 mk,.int .i64 cc,.int .i64 pc,.int .i64 sd,.int .i64 ou,.int .i64 hm,.int .i64 sk,.int .i64 sn,.str st,.sl lo 3 (slots.map (ab.tw lo)),.sl lo 3 (stack.map (ab.tw lo)),.sl lo 3 (values.map (ab.tw lo)),.int .i64 oth,.bool rt])]) (fun j=>j<=l.length/\∀y∈l.take j,cD m.store m.blocks.length y=true) (fun j=>l.length - j) 0 ⟨Ze _,by simp⟩
  exact kp_;exact nw_
  ·exact .refl _
  rintro j ⟨hj,hallj⟩
  try dsimp only
  by_cases hjt:j<l.length
  ·have hrow:=kO (lo:=lo) hjt
   have hxj:=hex _ (hli.2 _ (Zb hjt))
   have htj:=aY (p:=fun y=>cD m.store m.blocks.length y=true) hjt hallj
   cases hfj:cD m.store m.blocks.length l[j] with
   | false =>
     rw[hbad l (Zm hl4) (fB hjt hfj)]
     rw[hfj] at hxj
     generalize l[j]=x at hrow hxj
     repeat' (first|refine W_ ?_|(refine ak ?_;intro ss bb)|refine ac ?_|refine ae hG hst (hxj) ?_)
     exact r1_
   | true =>
     rw[hfj] at hxj htj
     generalize l[j]=x at hrow hxj
     repeat' (first|refine W_ ?_|(refine ak ?_;intro ss bb)|refine ac ?_|refine ae hG hst (hxj) ?_)
     exact ah (j+1) ⟨by omega,htj rfl⟩ (by omega) (.of _ nw_ od_ pk_)
  ·obtain rfl:j=l.length:=by omega
   rw[Zc (Zg _)] at hallj
   repeat' refine W_ ?_
   exact ah (i+1) ⟨by omega,hta (List.all_eq_true.2 hallj)⟩ (by omega) (.of _ nw_ od_ pk_)
 obtain rfl:i=4:=by omega
 rw[Zc (by omega)] at hall
 obtain⟨_,hv5,hB⟩:=hgood hall
 rw[hB]
 replace hMk:=hMk (hAm hv5)
 clear hgood hbad hall hB hv5 hAm hLL hrows hex
 by_cases hm0:mk=0
 case neg =>
   rw[if_neg hm0]
   unfold shB
   dsimp only
   rw[show decide (slots.length=0)=!decide ((slots.length:Int) > 0) from by rw[<- decide_not,decide_eq_decide];omega,show decide (stack.length=0)=!decide ((stack.length:Int) > 0) from by rw[<- decide_not,decide_eq_decide];omega]
   generalize (tK m k _ && afa _)=B at hMk |-
   have hE:eqL [.int .i64 sk,.int .i64 sn,.str st] (zT 52)=eqV ⟨sk,sn,st⟩ ⟨0,0,⟨#[]⟩⟩:=rfl
   generalize eqV ⟨sk,sn,st⟩ ⟨0,0,⟨#[]⟩⟩=E at hE |-
   repeat' (first|refine W_ ?_|refine ae hG hst (hMk) ?_|refine er ?_|refine c_ (fun hc=>?_) (fun hc=>?_)|refine g_ (fun hg=>?_) (fun hg=>?_))
   all_goals
     refine aN x_ rfl (.tmp _ _ rfl) (fun _=>?_)
     refine aL ?_
     first
       | (simp_all;done)
       | (simp_all;omega)
 subst hm0
 rw[if_pos rfl]
 clear hMk
 have k6:=aP (G:=GL) cc 0 ((m.base.codes.length:Int) - 1)
 rw[show (m.base.codes.length:Int) - 1=((m.base.codes.length - 1:Nat):Int) by omega] at k6
 unfold plB
 dsimp only
 rw[show (m.base.codes.length:Int) - 1=((m.base.codes.length - 1:Nat):Int) by omega]
 have hc7:inR cc 0 ((m.base.codes.length - 1:Nat):Int)=true->0<=cc/\cc<m.base.codes.length:=fun h=>by have:=of_decide_eq_true h;omega
 generalize inR cc 0 ((m.base.codes.length - 1:Nat):Int)=b6 at k6 hc7 |-
 by_cases hv0:values.length=0
 case neg =>
   rw[decide_eq_false hv0,Zl]
   have hv0':(values.length:Int) > 0:=by omega
   repeat' refine W_ ?_
   exact r1_
 have hv0':¬ (values.length:Int) > 0:=by omega
 rw[decide_eq_true hv0,Zn]
 by_cases ho0:oth=0
 case neg =>
   rw[decide_eq_false ho0,Zl]
   have ho0':oth≠0:=ho0
   repeat' refine W_ ?_
   exact r1_
 have ho0':¬ oth≠0:=fun h=>h ho0
 rw[decide_eq_true ho0,Zn]
 cases rt
 case true =>
   rw[YA,Zl]
   repeat' refine W_ ?_
   exact r1_
 rw[Yq,Zn]
 cases b6
 case false =>
   rw[Zl]
   repeat' (first|refine W_ ?_|refine ae hG hst (k6) ?_)
   exact r1_
 rw[Zn]
 have hcc:=hc7 rfl
 obtain⟨q,rfl⟩:∃q:Nat,cc=q:=⟨cc.toNat,by omega⟩
 have hq:q<m.base.codes.length:=by omega
 have hrq:=hcr q hq
 have hqo:=hgo q (by omega)
 rw[hci q hq]
 have hin:=(hcn _ (Zb hq)).1
 generalize m.base.codes[q]=x at hrq hin |-
 obtain⟨xb,xp,xs,xi⟩:=x
 have hil:=am.len lo xi
 have k9:=aP (G:=GL) pc 0 (xi.length:Int)
 unfold ahZ
 dsimp only at hrq hin |-
 generalize inR pc 0 (xi.length:Int)=b9 at k9 |-
 by_cases hs1:(slots.length:Int)=xs
 case neg =>
   have hs1':(slots.length:Int)≠xs:=hs1
   rw[decide_eq_false hs1,Zl]
   repeat' (first|refine W_ ?_|(refine ak ?_;intro ss bb)|refine ac ?_|refine ae hG hst (k6) ?_)
   all_goals
     exact r1_
 have hs1':¬ (slots.length:Int)≠xs:=fun h=>h hs1
 rw[decide_eq_true hs1,Zn]
 cases b9
 case false =>
   rw[Zl]
   repeat' (first|refine W_ ?_|(refine ak ?_;intro ss bb)|refine ac ?_|refine ae hG hst (k6) ?_|refine ae hG hst (k9) ?_)
   all_goals
     exact r1_
 rw[Zn]
 by_cases hs2:stack.length<=250
 case neg =>
   have hs2':(stack.length:Int) > 250:=by omega
   rw[decide_eq_false hs2,Zl]
   repeat' (first|refine W_ ?_|(refine ak ?_;intro ss bb)|refine ac ?_|refine ae hG hst (k6) ?_|refine ae hG hst (k9) ?_)
   all_goals
     exact r1_
 have hs2':¬ (stack.length:Int) > 250:=by omega
 rw[decide_eq_true hs2,Zn]
 cases xb
 case false =>
   rw[if_neg (by decide)]
   repeat' (first|refine W_ ?_|(refine ak ?_;intro ss bb)|refine ac ?_|refine ae hG hst (k6) ?_|refine ae hG hst (k9) ?_|refine g_ (fun hg=>?_) (fun hg=>?_))
   all_goals
     refine aN x_ rfl (.tmp _ _ rfl) (fun _=>?_)
     exact aL (by simp[*])
 rw[if_pos rfl]
 have k13:=aP (G:=GL) ou 0 ((k:Int) - 1)
 cases hin2:inR ou 0 ((k:Int) - 1)
 case false =>
   rw[Zl]
   rw[hin2] at k13
   repeat' (first|refine W_ ?_|(refine ak ?_;intro ss bb)|refine ac ?_|refine ae hG hst (k6) ?_|refine ae hG hst (k9) ?_|refine ae hG hst (k13) ?_)
   all_goals
     exact r1_
 rw[Zn]
 rw[hin2] at k13
 have hin3:=of_decide_eq_true hin2
 obtain⟨u,rfl⟩:∃u:Nat,ou=u:=⟨ou.toNat,by omega⟩
 have hu:u<m.contexts.length:=by omega
 have hru:=hxr u hu
 rw[hxi u hu]
 rw[show (k:Int) - 1=((k - 1:Nat):Int) by omega] at k13
 generalize m.contexts[u]=p at hru |-
 obtain⟨pm,pcc,ppc,ps,po,ph,⟨pk,pn,pt⟩,psl,pst,pva,pot,prt⟩:=p
 unfold eqV
 dsimp only at hru |-
 repeat' (first|refine V_ ?_|(refine ak ?_;intro ss bb)|refine ac ?_|refine ae hG hst (k6) ?_|refine ae hG hst (k9) ?_|refine ae hG hst (k13) ?_|refine g_ (fun hg=>?_) (fun hg=>?_))
 all_goals
   refine aN x_ rfl (.tmp _ _ rfl) (fun _=>?_)
   refine aL ?_
   first
     | (simp[eqL,eqC, *];done)
     | (simp_all [eqL,eqC];done)
end Go.Proofs.YtifcomgnmokimaaGreatDoor
