/- Part 33 of the proof: the texts ImI. -/
import Derived.Test.YtifcomgnmokimaaGreatDoorRt29
import Derived.Test.YtifcomgnmokimaaGreatDoorRt3
set_option linter.all false
set_option maxHeartbeats 4000000
set_option maxRecDepth 20000
namespace Go.Proofs.YtifcomgnmokimaaGreatDoor
open Go Go.RowKit
theorem sH (f lo l2:Nat) (m:ad) (hsm:m.small 1048576) (hcl:iA m.store.classes) (h16:16<=m.store.classes.length) (hc1:1<=m.base.codes.length) (o:List Int) (ho:o.length=m.base.codes.length) (k:Nat) (hk:k<m.contexts.length):Ct Tryz.prog GL 80 [.cp f (m.tw lo),.int .i64 (k:Int),.sl l2 1 (aS o)] (fun _=>.bool (qI m o k m.contexts[k])):=by
 refine av Tryz.func80 rfl Tryz.ntmps80 rfl rfl fun w0 _ hG=>?_
 have hst:=en
 have hrow:=dI (lo:=lo) hk
 have hlx:=ao.len lo m.contexts
 have hlc:=aB.len lo m.base.codes
 have hxl:=hsm.2.2.2.1.1
 have hcl2:=hsm.1.2.1.1
 have hol:=aj o
 have hgo:=fun(j:Nat) (h:j<o.length)=>fG (o:=o) h
 have hxi:=fun(i:Nat) (h:i<m.contexts.length)=>yr (m:=m) h rfl
 have hci:=fun(i:Nat) (h:i<m.base.codes.length)=>yS (m:=m) h rfl
 have hxr:=fun(i:Nat) (h:i<m.contexts.length)=>dI (lo:=lo) (l:=m.contexts) h
 have hcr:=fun(i:Nat) (h:i<m.base.codes.length)=>cj (lo:=lo) (cs:=m.base.codes) h
 have hsc:=hsm.2.2.2.1.2 _ (Zb hk)
 have hMk:=fun hv=>aah f lo m hsm hcl h16 hc1 k hk hv
 have hAl:=fun l hl=>acp f lo m hsm.2.2.1.1 l hl
 have hex:=fun(x:ab) (h:x.text.size<=1048576)=>fh 0 lo m.store m.blocks.length x h
 have hbl:=aq.len lo m.blocks
 have hbl1:=hsm.2.2.1.1
 unfold aQ.tw at hex
 generalize m.contexts[k]=c at hrow hsc hMk |-
 obtain⟨mk,cc,pc,sd,ou,hm,⟨sk,sn,st⟩,slots,stack,values,oth,rt⟩:=c
 have k1:=bC (G:=GL) sd (-1) ((k:Int) - 1)
 have kS:=hAl slots hsc.2.1
 have kT:=hAl stack hsc.2.2.1
 have kV:=hAl values hsc.2.2.2
 have kF:=hex ⟨sk,sn,st⟩ hsc.1
 have hfn:=afu (m:=m) (k:=sk) (n:=sn) (t:=st)
 have hsl1:=hsc.2.1.1
 have hst1:=hsc.2.2.1.1
 have hvl1:=hsc.2.2.2.1
 clear hAl hex hsc
 dsimp only at hrow hMk hsl1 hst1 hvl1 kF |-
 have hvl:=ab.len lo values
 have hsl:=ab.len lo slots
 have htl:=ab.len lo stack
 have hAm:=kR (m:=m) (l:=values)
 unfold ad.tw at kS kT kV hMk |-
 unfold qI
 dsimp only
 generalize inR sd (-1) ((k:Int) - 1)=b1 at k1 |-
 generalize pS m slots=b3 at kS |-
 generalize pS m stack=b4 at kT |-
 generalize cD m.store m.blocks.length ⟨sk,sn,st⟩=b2 at kF hfn |-
 generalize pS m values=b5 at kV hAm |-
 cases b2
 case false =>
   rw[Zl,YD]
   repeat' (first|refine HV_ 4 ?_|(refine ak ?_;intro ss bb)|refine ac ?_|refine ai hG hst (k1) ?_|refine ai hG hst (kS) ?_|refine ai hG hst (kT) ?_|refine ai hG hst (kV) ?_|refine dv hG hst (kF) ?_|refine g_ (fun hg=>?_) (fun hg=>?_))
   all_goals
     exact r1_
 replace hfn:=hfn rfl
 cases b5
 case false =>
   rw[Zl,YD,YD,YD,YD]
   repeat' (first|refine HV_ 4 ?_|(refine ak ?_;intro ss bb)|refine ac ?_|refine ai hG hst (k1) ?_|refine ai hG hst (kS) ?_|refine ai hG hst (kT) ?_|refine ai hG hst (kV) ?_|refine g_ (fun hg=>?_) (fun hg=>?_))
   all_goals
     exact r1_
 replace hMk:=hMk (hAm rfl)
 by_cases hb:(b1 && (b3 && b4))=true
 case neg =>
   have e:∀Z,(b1 && (true && (b3 && (b4 && (true && Z)))))=false:=fun Z=>by
     cases b1 <;> cases b3 <;> cases b4 <;> first|rfl|exact absurd rfl hb
   rw[e]
   clear e
   repeat' (first|refine HV_ 4 ?_|(refine ak ?_;intro ss bb)|refine ac ?_|refine ai hG hst (k1) ?_|refine ai hG hst (kS) ?_|refine ai hG hst (kT) ?_|refine ai hG hst (kV) ?_|refine dv hG hst (kF) ?_|refine g_ (fun hg=>?_) (fun hg=>?_))
   all_goals first
     | (exact r1_)
     | (exfalso;simp_all;done)
 simp only[Zq] at hb
 obtain⟨rfl,rfl,rfl⟩:=hb
 rw[Zn,Zn,Zn,Zn,Zn]
 repeat' (first|refine HV_ 4 ?_|(refine ak ?_;intro ss bb)|refine ac ?_|refine ai hG hst (k1) ?_|refine ai hG hst (kS) ?_|refine ai hG hst (kT) ?_|refine ai hG hst (kV) ?_|refine dv hG hst (kF) ?_)
 refine⟨?_⟩
 clear k1 kS kT kV kF
 by_cases hm0:mk=0
 case neg =>
   have hm0':mk≠0:=hm0
   rw[if_neg hm0]
   have hadd:((slots.length:Int)+stack.length=0)↔(slots.length=0/\stack.length=0):=by omega
   unfold shB afa
   dsimp only
   rw[hfn]
   generalize tK m k _=B at hMk |-
   repeat' (first|refine W_ ?_|refine ae hG hst (hMk) ?_|dsimp only [List.append]|refine g_ (fun hg=>?_) (fun hg=>?_))
   all_goals
     refine aN x_ rfl (.tmp _ _ rfl) (fun _=>?_)
     refine aL ?_
     first
       | (simp_all;done)
       | (simp_all;omega)
 subst hm0
 have hm0':¬ ((0:Int)≠0):=fun h=>h rfl
 rw[if_pos rfl]
 clear hMk hfn hAm
 have k6:=bC (G:=GL) cc 0 ((m.base.codes.length:Int) - 1)
 rw[show (m.base.codes.length:Int) - 1=((m.base.codes.length - 1:Nat):Int) by omega] at k6
 unfold plB
 dsimp only
 rw[show (m.base.codes.length:Int) - 1=((m.base.codes.length - 1:Nat):Int) by omega]
 have hc7:inR cc 0 ((m.base.codes.length - 1:Nat):Int)=true->0<=cc/\cc<m.base.codes.length:=fun h=>by have:=of_decide_eq_true h;omega
 generalize inR cc 0 ((m.base.codes.length - 1:Nat):Int)=b6 at k6 hc7 |-
 by_cases hv0:values.length=0
 case neg =>
   rw[decide_eq_false hv0,Zl]
   have hv0':(values.length:Int) > 0:=by omega
   repeat' refine V_ ?_
   exact r1_
 have hv0':¬ (values.length:Int) > 0:=by omega
 rw[decide_eq_true hv0,Zn]
 by_cases ho0:oth=0
 case neg =>
   rw[decide_eq_false ho0,Zl]
   have ho0':oth≠0:=ho0
   repeat' refine V_ ?_
   exact r1_
 have ho0':¬ oth≠0:=fun h=>h ho0
 rw[decide_eq_true ho0,Zn]
 cases rt
 case true =>
   rw[YA,Zl]
   repeat' refine V_ ?_
   exact r1_
 rw[Yq,Zn]
 cases b6
 case false =>
   rw[Zl]
   repeat' (first|refine V_ ?_|refine ai hG hst (k6) ?_)
   exact r1_
 rw[Zn]
 have hcc:=hc7 rfl
 obtain⟨q,rfl⟩:∃q:Nat,cc=q:=⟨cc.toNat,by omega⟩
 have hq:q<m.base.codes.length:=by omega
 have hrq:=hcr q hq
 have hqo:=hgo q (by omega)
 rw[hci q hq]
 have hin:=(hsm.1.2.1.2 _ (Zb hq)).1
 generalize m.base.codes[q]=x at hrq hin |-
 obtain⟨xb,xp,xs,xi⟩:=x
 have hil:=am.len lo xi
 have k9:=bC (G:=GL) pc 0 (xi.length:Int)
 unfold ahZ
 dsimp only at hrq hin |-
 generalize inR pc 0 (xi.length:Int)=b9 at k9 |-
 repeat' (first|refine HV_ 8 ?_|refine ai hG hst (k6) ?_)
 refine⟨?_⟩
 repeat' (first|refine W_ ?_|((with_reducible apply dX (id:=8) 10);kernel_rfl;kernel_rfl;kernel_rfl;rfl;(repeat (first|exact Cut.zero _|apply Cut.succ)))|((with_reducible apply m_q);exact ym_;rfl;exact ez)|((with_reducible apply cA);rfl;(intro p;try dsimp only);(repeat (first|exact TB.nil _|((with_reducible apply TB.cons);rfl;rfl;(first|exact .nil _|exact .put _ _ _ _ _ (.nil _)|exact .skip _ _ _ _ _ (.put _ _ _ _ _ (.nil _))|exact .skip _ _ _ _ _ (.skip _ _ _ _ _ (.put _ _ _ _ _ (.nil _)))|(repeat (first|exact .nil _|apply aW.put|apply aW.skip)));kernel_rfl)));rfl;kernel_rfl;kernel_rfl;exact ez)|((with_reducible apply gm);rfl;rfl;kernel_rfl)|(with_reducible refine DM.nil _ _ _ ?_))
 intro p hp
 refine bV (objs':=((p 9).a,(p 9).b,.box [.bool false,.int .i64 0,.int .i64 0,.nils])::[(ss,bb,.box [.int .i64 0,.int .i64 (q:Int),.int .i64 pc,.int .i64 sd,.int .i64 ou,.int .i64 hm,.int .i64 sk,.int .i64 sn,.str st,.sl lo 3 (slots.map (ab.tw lo)),.sl lo 3 (stack.map (ab.tw lo)),.sl lo 3 (values.map (ab.tw lo)),.int .i64 oth,.bool false])]) (by rw[show et _=[_] from rfl];simp only[ZC,ZK,Zt,Zk,ZF,Zx];(try rfl)) ?_
 dsimp only [Nat.reduceAdd]
 generalize Yu.a (p 9)=s8;generalize Yu.b (p 9)=b8
 repeat' (first|refine H_ 9 ?_|refine ac ?_)
 refine⟨?_⟩
 clear k6
 by_cases hs1:(slots.length:Int)=xs
 case neg =>
   have hs1':(slots.length:Int)≠xs:=hs1
   rw[decide_eq_false hs1,Zl]
   repeat' refine W_ ?_
   all_goals
     exact r1_
 have hs1':¬ (slots.length:Int)≠xs:=fun h=>h hs1
 rw[decide_eq_true hs1,Zn]
 cases b9
 case false =>
   rw[Zl]
   repeat' (first|refine W_ ?_|refine ae hG hst (k9) ?_)
   all_goals
     exact r1_
 rw[Zn]
 by_cases hs2:stack.length<=250
 case neg =>
   have hs2':(stack.length:Int) > 250:=by omega
   rw[decide_eq_false hs2,Zl]
   repeat' (first|refine W_ ?_|refine ae hG hst (k9) ?_)
   all_goals
     exact r1_
 have hs2':¬ (stack.length:Int) > 250:=by omega
 rw[decide_eq_true hs2,Zn]
 cases xb
 case false =>
   rw[if_neg (by decide)]
   repeat' (first|refine W_ ?_|refine ae hG hst (k9) ?_|refine g_ (fun hg=>?_) (fun hg=>?_))
   all_goals
     refine aN x_ rfl (.tmp _ _ rfl) (fun _=>?_)
     exact aL (by simp[*])
 rw[if_pos rfl]
 have k13:=bC (G:=GL) ou 0 ((k:Int) - 1)
 cases hin2:inR ou 0 ((k:Int) - 1)
 case false =>
   rw[Zl]
   rw[hin2] at k13
   repeat' (first|refine V_ ?_|refine ai hG hst (k13) ?_|refine ae hG hst (k9) ?_)
   all_goals
     exact r1_
 rw[Zn]
 rw[hin2] at k13
 have hin3:=of_decide_eq_true hin2
 obtain⟨u,rfl⟩:∃u:Nat,ou=u:=⟨ou.toNat,by omega⟩
 have hu:u<m.contexts.length:=by omega
 have hru:=hxr u hu
 rw[hxi u hu]
 rw[show (k:Int) - 1=((k - 1:Nat):Int) by omega] at k13
 generalize m.contexts[u]=p at hru |-
 obtain⟨pm,pcc,ppc,ps,po,ph,⟨pk,pn,pt⟩,psl,pst,pva,pot,prt⟩:=p
 unfold eqV
 dsimp only at hru |-
 repeat' (first|refine V_ ?_|refine ai hG hst (k13) ?_|refine ae hG hst (k9) ?_|refine g_ (fun hg=>?_) (fun hg=>?_))
 all_goals
   refine aN x_ rfl (.tmp _ _ rfl) (fun _=>?_)
   refine aL ?_
   first
     | (simp[eqL,eqC, *];done)
     | (simp_all [eqL,eqC];done)
end Go.Proofs.YtifcomgnmokimaaGreatDoor
