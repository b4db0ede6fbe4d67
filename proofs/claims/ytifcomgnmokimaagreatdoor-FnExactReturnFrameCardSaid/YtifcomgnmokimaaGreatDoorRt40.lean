/- Part 40 of the proof: the texts ImT. -/
import Derived.Test.YtifcomgnmokimaaGreatDoorRt38
import Derived.Test.YtifcomgnmokimaaGreatDoorRt37
import Derived.Test.YtifcomgnmokimaaGreatDoorRt31
import Derived.Test.YtifcomgnmokimaaGreatDoorRt39
import Derived.Test.YtifcomgnmokimaaGreatDoorRt23
import Derived.Test.YtifcomgnmokimaaGreatDoorRt20
set_option linter.all false
set_option maxHeartbeats 8000000
set_option maxRecDepth 20000
namespace Go.Proofs.YtifcomgnmokimaaGreatDoor
open Go Go.RowKit
open Classical in
theorem aeW {m:ad} (h:tx m=true):ac9 m:=of_decide_eq_true h
open Classical in
theorem adT {m:ad} {n0 n1 n2:Int} (h:zW m n0 n1 n2=true):aaE m n0 n1 n2:=of_decide_eq_true h
theorem yV {m:ad} {o:ar} (h:¬ (o.kind=1/\o.numbers.length=3)):xL m o:=fun hk a b c e=>absurd ⟨hk,by rw[e];rfl⟩ h
theorem p6 (lo:Nat) (m:ad) (hsm:m.small 1048576):Ct Tryz.prog GL 30 [.agg (m.tw lo)] (fun _=>.bool (da m)):=by
 refine av Tryz.func30 rfl Tryz.ntmps30 rfl rfl fun w0 _ hG=>?_
 have hst:=en
 have hF:=aby (m:=m)
 have hT:=ack (m:=m)
 have hlx:=ao.len lo m.contexts
 have hlb:=aq.len lo m.blocks
 have hlp:=ag.len lo m.processes
 have hlo:=ar.len lo m.store.objects
 have hlc:=aB.len lo m.base.codes
 have hxl:=hsm.2.2.2.1.1
 have hbl:=hsm.2.2.1.1
 have hcl2:=hsm.1.2.1.1
 have hol:=hsm.2.1.2.1.1
 have c1:=mF lo m.base.classes m.base.entries m.base.codes m.base.main hsm.1.1 hsm.1.2.1 hsm.1.2.2
 have c2:=qd (G:=GL) lo lo m.base.classes m.store.classes hsm.1.1 hsm.2.1.1
 have c3:=z8 lo m.store hsm.2.1 m.blocks.length
 have d1:=aP (G:=GL) m.status 0 5
 have d4:=lD lo m.store m.blocks.length m.value hsm.2.2.2.2.2.2.1
 have d5:=pG (G:=GL) hst m.fault hsm.2.2.2.2.2.2.2
 unfold aQ.tw at c3 d4
 have e16:=fun hne=>uM hst lo (.sl lo 3 (m.base.classes.map (aa.tw lo))) (.sl lo 4 (m.base.entries.map (aD.tw lo))) m.base.codes m.base.main hne hsm.1.2.1
 have eX:=fun hcl hc1 hbc o ho k hk=>uX lo w0.heap.size m hsm hcl hc1 hbc o ho k hk
 have eP:=fun hdep hsd hpl h800 hsem=>qg lo m hsm hdep hsd hpl h800 hsem
 have eE:=fun hsd n0 n1 n2=>qh lo lo m hsm hsd n0 n1 n2
 have hxr:=fun(i:Nat) (h:i<m.contexts.length)=>dI (lo:=lo) (l:=m.contexts) h
 have hcr:=fun(i:Nat) (h:i<m.base.codes.length)=>cj (lo:=lo) (cs:=m.base.codes) h
 have hxi:=fun(i:Nat) (h:i<m.contexts.length)=>yr (m:=m) h rfl
 have hci:=fun(i:Nat) (h:i<m.base.codes.length)=>yS (m:=m) h rfl
 have hnum:=fun(i:Nat) (h:i<m.store.objects.length)=>(hsm.2.1.2.1.2 _ (Zb h)).2
 unfold ad.tw at eX eP eE |-
 cases hV:dM m.base
 case false =>
   rw[hF fun h=>by have:=h.ver;rw[hV] at this;cases this]
   replace c1:Ct Tryz.prog GL 99 [.agg [.sl lo 3 (m.base.classes.map (aa.tw lo)),.sl lo 4 (m.base.codes.map (aB.tw lo)),.sl lo 4 (m.base.entries.map (aD.tw lo)),.int .i64 m.base.main]] (fun _=>.bool false):=hV ▸ c1
   repeat' (first|refine W_ ?_|refine aJ ?_|refine ae hG hst (c1) ?_)
   exact r1_
 replace c1:Ct Tryz.prog GL 99 [.agg [.sl lo 3 (m.base.classes.map (aa.tw lo)),.sl lo 4 (m.base.codes.map (aB.tw lo)),.sl lo 4 (m.base.entries.map (aD.tw lo)),.int .i64 m.base.main]] (fun _=>.bool true):=hV ▸ c1
 by_cases hS:m.base.classes=m.store.classes
 case neg =>
   rw[hF fun h=>hS h.same]
   rw[q9 hS] at c2
   repeat' (first|refine W_ ?_|refine aJ ?_|refine ae hG hst (c1) ?_|refine ae hG hst (c2) ?_)
   exact r1_
 rw[yC hS] at c2
 cases hR:lA m.store m.blocks.length
 case false =>
   rw[hF fun h=>by have:=h.store;rw[hR] at this;cases this]
   rw[hR] at c3
   repeat' (first|refine W_ ?_|refine aJ ?_|refine ae hG hst (c1) ?_|refine ae hG hst (c2) ?_|refine ae hG hst (c3) ?_)
   exact r1_
 rw[hR] at c3
 by_cases hM:(m.store.objects.length:Int)+m.blocks.length<=m.store.made
 case neg =>
   rw[hF fun h=>hM h.made]
   have hM':m.store.made<(m.store.objects.length:Int)+m.blocks.length:=by omega
   repeat' (first|refine W_ ?_|refine aJ ?_|refine ae hG hst (c1) ?_|refine ae hG hst (c2) ?_|refine ae hG hst (c3) ?_)
   exact r1_
 have hM':¬ m.store.made<(m.store.objects.length:Int)+m.blocks.length:=by omega
 cases h1:inR m.status 0 5
 case false =>
   rw[hF fun h=>by have:=h.status;rw[h1] at this;cases this]
   rw[h1] at d1
   repeat' (first|refine W_ ?_|refine aJ ?_|refine ae hG hst (c1) ?_|refine ae hG hst (c2) ?_|refine ae hG hst (c3) ?_|refine ae hG hst (d1) ?_)
   exact r1_
 rw[h1] at d1
 cases h4:cD m.store m.blocks.length m.value
 case false =>
   rw[hF fun h=>by have:=h.value;unfold mL at this;rw[h4] at this;cases this]
   rw[h4] at d4
   repeat' (first|refine W_ ?_|refine aJ ?_|refine ae hG hst (c1) ?_|refine ae hG hst (c2) ?_|refine ae hG hst (c3) ?_|refine ae hG hst (d1) ?_|refine ae hG hst (d4) ?_)
   exact r1_
 rw[h4] at d4
 cases h5:gN m.fault
 case false =>
   rw[hF fun h=>by have:=h.fault;rw[h5] at this;cases this]
   rw[h5] at d5
   repeat' (first|refine W_ ?_|refine aJ ?_|refine ae hG hst (c1) ?_|refine ae hG hst (c2) ?_|refine ae hG hst (c3) ?_|refine ae hG hst (d1) ?_|refine ae hG hst (d4) ?_|refine ae hG hst (d5) ?_)
   exact r1_
 rw[h5] at d5
 repeat' (first|refine H_ 3 ?_|refine aJ ?_|refine ae hG hst (c1) ?_|refine ae hG hst (c2) ?_|refine ae hG hst (c3) ?_|refine ae hG hst (d1) ?_|refine ae hG hst (d4) ?_|refine ae hG hst (d5) ?_)
 refine⟨?_⟩
 clear c1 c2 c3 d1 d4 d5 hM'
 obtain⟨hc1,o,ho,hoL⟩:=dU hV
 obtain⟨hsc,h800,hsem⟩:=nq hR
 have hcl:=sR hsc
 have hdep:=pT hV
 have hgo:=fun(j:Nat) (h:j<o.length)=>fG (o:=o) h
 have holn:=aj o
 replace e16:=e16 hc1
 unfold aeC at e16
 rw[ho] at e16
 replace e16:Ct Tryz.prog GL 103 [.agg [.sl lo 3 (m.base.classes.map (aa.tw lo)),.sl lo 4 (m.base.codes.map (aB.tw lo)),.sl lo 4 (m.base.entries.map (aD.tw lo)),.int .i64 m.base.main]] (fun K=>.tup [.sl K 1 (aS o),.bool true]):=e16
 repeat' (first|refine W_ ?_|refine ae hG hst (e16) ?_)
 apply ap (X:=Nat) [1,3,78,79] (fun i=>[(80,.int .i64 (i:Int))]) (fun _=>[]) (fun i=>i<=m.blocks.length/\∀b∈m.blocks.take i,ks m o b=true) (fun i=>m.blocks.length - i) 0 ⟨Ze _,by simp⟩
 exact kp_;exact nw_
 ·exact .refl _
 rintro i ⟨hi,hall⟩
 try dsimp only
 by_cases hlt:i<m.blocks.length
 ·have hrow:=rZ (lo:=lo) hlt
  have hta:ks m o m.blocks[i]=true->∀y∈m.blocks.take (i+1),ks m o y=true:=aY (p:=fun b=>ks m o b=true) hlt hall
  have hbad:ks m o m.blocks[i]=false->da m=false:=fun hB=>hF fun h=>by have:=(h.outs o ho).2 _ (Zb hlt);rw[hB] at this;cases this
  clear hF hT eX eP eE e16 hall hV hS hR hM h1 h4 h5 hdep hsem hcl hsc hnum
  generalize m.blocks[i]=b at hrow hta hbad
  obtain⟨bc,bo,bh,⟨bk,bn,bt⟩⟩:=b
  have k1:=aP (G:=GL) bc 0 ((m.base.codes.length:Int) - 1)
  have k2:=aP (G:=GL) bo 0 ((m.contexts.length:Int) - 1)
  rw[show (m.base.codes.length:Int) - 1=((m.base.codes.length - 1:Nat):Int) by omega] at k1
  generalize hQ:(∀y∈m.blocks.take (i+1),ks m o y=true)=Q at hta
  unfold ks at hta hbad
  dsimp only at hta hbad hrow
  rw[show (m.base.codes.length:Int) - 1=((m.base.codes.length - 1:Nat):Int) by omega] at hta hbad
  have hcs:(m.contexts.length:Int) - 1=((m.contexts.length - 1:Nat):Int)\/¬ 1<=m.contexts.length:=by omega
  cases g1:inR bc 0 ((m.base.codes.length - 1:Nat):Int)
  case false =>
    rw[hbad (by rw[g1,Zl])]
    rw[g1] at k1
    repeat' (first|refine W_ ?_|(refine ak ?_;intro ss bb)|refine ac ?_|refine ae hG hst (k1) ?_)
    exact r1_
  rw[g1,Zn] at hta hbad
  rw[g1] at k1
  have g1':=of_decide_eq_true g1
  obtain⟨q,rfl⟩:∃q:Nat,bc=q:=⟨bc.toNat,by omega⟩
  have hq:q<m.base.codes.length:=by omega
  have hrq:=hcr q hq
  have hqo:=hgo q (by omega)
  rw[hci q hq] at hta hbad
  clear hcr hgo hci
  generalize m.base.codes[q]=x at hrq hta hbad
  obtain⟨xb,xp,xs,xi⟩:=x
  dsimp only at hrq hta hbad
  cases xb
  case false =>
    rw[hbad (by rw[Zl])]
    repeat' (first|refine W_ ?_|(refine ak ?_;intro ss bb)|refine ac ?_|refine ae hG hst (k1) ?_)
    exact r1_
  rw[Zn] at hta hbad
  cases g2:inR bo 0 ((m.contexts.length:Int) - 1)
  case false =>
    rw[hbad (by rw[g2,Zl])]
    rw[g2] at k2
    rcases hcs with hcs|hcs
    ·rw[hcs] at k2
     have hcs1:1<=m.contexts.length:=by omega
     repeat' (first|refine W_ ?_|(refine ak ?_;intro ss bb)|refine ac ?_|refine ae hG hst (k1) ?_|refine ae hG hst (k2) ?_)
     exact r1_
    ·repeat' (first|refine W_ ?_|(refine ak ?_;intro ss bb)|refine ac ?_|refine ae hG hst (k1) ?_|refine ae hG hst (k2) ?_)
     exact r1_
  rw[g2,Zn] at hta hbad
  rw[g2] at k2
  have g2':=of_decide_eq_true g2
  obtain⟨u,rfl⟩:∃u:Nat,bo=u:=⟨bo.toNat,by omega⟩
  have hu:u<m.contexts.length:=by omega
  have hru:=hxr u hu
  rw[hxi u hu] at hta hbad
  rw[show (m.contexts.length:Int) - 1=((m.contexts.length - 1:Nat):Int) by omega] at k2
  clear hxr hxi
  generalize m.contexts[u]=p at hru hta hbad
  obtain⟨pm,pcc,ppc,ps,po,ph,⟨pk,pn,pt⟩,psl,pst,pva,pot,prt⟩:=p
  dsimp only at hru hta hbad
  have hE:eqL [.int .i64 bk,.int .i64 bn,.str bt] [.int .i64 pk,.int .i64 pn,.str pt]=eqV ⟨bk,bn,bt⟩ ⟨pk,pn,pt⟩:=rfl
  generalize eqV ⟨bk,bn,bt⟩ ⟨pk,pn,pt⟩=E at hE hta hbad
  by_cases m0:pm=0
  case neg =>
    have m0':pm≠0:=m0
    rw[hbad (by rw[decide_eq_false m0,Zl])]
    repeat' (first|refine V_ ?_|(refine ak ?_;intro ss bb)|refine ac ?_|refine ae hG hst (k1) ?_|refine ae hG hst (k2) ?_)
    exact r1_
  have m0':¬ pm≠0:=fun h=>h m0
  rw[decide_eq_true m0,Zn] at hta hbad
  by_cases m1:pcc=gd o (q:Int)
  case neg =>
    have m1':pcc≠gd o (q:Int):=m1
    rw[hbad (by rw[decide_eq_false m1,Zl])]
    repeat' (first|refine V_ ?_|(refine ak ?_;intro ss bb)|refine ac ?_|refine ae hG hst (k1) ?_|refine ae hG hst (k2) ?_)
    exact r1_
  have m1':¬ pcc≠gd o (q:Int):=fun h=>h m1
  rw[decide_eq_true m1,Zn] at hta hbad
  by_cases m2:bh=ph
  case neg =>
    have m2':bh≠ph:=m2
    rw[hbad (by rw[decide_eq_false m2,Zl])]
    repeat' (first|refine V_ ?_|(refine ak ?_;intro ss bb)|refine ac ?_|refine ae hG hst (k1) ?_|refine ae hG hst (k2) ?_)
    exact r1_
  have m2':¬ bh≠ph:=fun h=>h m2
  rw[decide_eq_true m2,Zn] at hta hbad
  cases E
  ·rw[hbad rfl]
   have hE2:(!eqL [.int .i64 bk,.int .i64 bn,.str bt] [.int .i64 pk,.int .i64 pn,.str pt])=true:=by rw[hE];rfl
   repeat' (first|refine V_ ?_|(refine ak ?_;intro ss bb)|refine ac ?_|refine ae hG hst (k1) ?_|refine ae hG hst (k2) ?_|refine c_ (fun hc=>?_) (fun hc=>?_))
   all_goals first
     | (exact r1_)
     | (exfalso;simp_all;done)
  ·have hE2:(!eqL [.int .i64 bk,.int .i64 bn,.str bt] [.int .i64 pk,.int .i64 pn,.str pt])=false:=by rw[hE];rfl
   repeat' (first|refine V_ ?_|(refine ak ?_;intro ss bb)|refine ac ?_|refine ae hG hst (k1) ?_|refine ae hG hst (k2) ?_|refine c_ (fun hc=>?_) (fun hc=>?_))
   all_goals first
     | exact ah (i+1) ⟨by omega,hQ ▸ hta rfl⟩ (by omega) (.of _ nw_ od_ pk_)
     | (exfalso;simp_all;done)
 obtain rfl:i=m.blocks.length:=by omega
 rw[Zc (Zg _)] at hall
 have hcb:=hall
 have hbc:∀b∈m.blocks,0<=b.code/\b.code<m.base.codes.length:=fun b hb=>by
   have h2:=hcb b hb
   unfold ks at h2
   simp only[Zq] at h2
   have h3:=of_decide_eq_true h2.1
   omega
 replace eX:=eX hcl hc1 hbc o hoL
 clear hall hlt hi hxr hcr hxi hci hgo e16
 repeat' refine W_ ?_
 apply ap (X:=Nat) [1,3,150] (fun i=>[(151,.int .i64 (i:Int))]) (fun _=>[]) (fun i=>i<=m.contexts.length/\∀j (h:j<m.contexts.length),j<i->qI m o j m.contexts[j]=true) (fun i=>m.contexts.length - i) 0 ⟨Ze _,fun _ _ h=>absurd h (Xc _)⟩
 exact kp_;exact nw_
 ·exact .refl _
 rintro i ⟨hi,hall⟩
 try dsimp only
 by_cases hlt:i<m.contexts.length
 ·have hct:=eX i hlt
  cases hB:qI m o i m.contexts[i]
  ·rw[hF fun h=>by have:=(h.outs o ho).1 i hlt;rw[hB] at this;cases this]
   rw[hB] at hct
   repeat' (first|refine W_ ?_|refine ae hG hst (hct) ?_)
   exact r1_
  ·rw[hB] at hct
   repeat' (first|refine W_ ?_|refine ae hG hst (hct) ?_)
   exact ah (i+1) ⟨by omega,fun j h hj=>by
     rcases YB j i with h1|h1
     ·exact hall j h h1
     ·obtain rfl:j=i:=by omega
      exact hB⟩ (by omega) (.of _ nw_ od_ pk_)
 obtain rfl:i=m.contexts.length:=by omega
 have hctx:∀j (h:j<m.contexts.length),qI m o j m.contexts[j]=true:=fun j h=>hall j h h
 have hsd:=pH hctx
 have hplain:∀(i:Nat) (h:i<m.contexts.length),m.contexts[i].mark=0->(0<=m.contexts[i].code/\m.contexts[i].code<m.base.codes.length)/\0<=m.contexts[i].pc:=fun i h h0=>by
   obtain⟨x,_,h2,h3,_⟩:=vJ (hctx i h) h0
   exact⟨h2,h3.1⟩
 replace eP:=eP hdep hsd hplain h800 hsem
 replace eE:=eE hsd
 have houts:aeH m o:=⟨hctx,hcb⟩
 clear hall eX hdep hplain hlt hi hcb hctx hbc
 cases hPB:tx m
 ·rw[hF fun h=>by
    have:=aeq (m:=m) ⟨h.procs,h.now,h.ats,h.live⟩
    rw[hPB] at this;cases this]
  rw[hPB] at eP
  repeat' (first|refine W_ ?_|refine ae hG hst (eP) ?_)
  exact r1_
 rw[hPB] at eP
 have hPP:=aeW hPB
 have hgood:(∀o∈m.store.objects,xL m o)->da m=true:=fun k=>hT ⟨hV,hS,hR,hM,h1,hPP.1,hPP.2.1,h4,h5,fun o' ho'=>by rw[ho] at ho';cases ho';exact houts,hPP.2.2.1,hPP.2.2.2,k⟩
 have hbadE:∀o∈m.store.objects,¬ xL m o->da m=false:=fun o ho hn=>hF fun h=>hn (h.exc o ho)
 clear hT hF hV hS hR hM h1 h4 h5 houts hPP hPB ho
 generalize da m=V at hgood hbadE |-
 repeat' (first|refine W_ ?_|refine ae hG hst (eP) ?_)
 apply ap (X:=Nat) [1,165,166] (fun i=>[(167,.int .i64 (i:Int))]) (fun _=>[]) (fun i=>i<=m.store.objects.length/\∀o∈m.store.objects.take i,xL m o) (fun i=>m.store.objects.length - i) 0 ⟨Ze _,by simp⟩
 exact kp_;exact nw_
 ·exact .refl _
 rintro i ⟨hi,hall⟩
 try dsimp only
 by_cases hlt:i<m.store.objects.length
 case neg =>
   obtain rfl:i=m.store.objects.length:=by omega
   rw[Zc (Zg _)] at hall
   rw[hgood hall]
   repeat' refine W_ ?_
   exact r1_
 have hrow:=sy (lo:=lo) hlt
 have hta:=aY (p:=fun o=>xL m o) hlt hall
 have hbad:=hbadE _ (Zb hlt)
 have hnl:=hnum i hlt
 clear hall hgood hbadE hnum eP hsem
 generalize m.store.objects[i]=ob at hrow hta hbad hnl
 obtain⟨ok,oc,fs,ns⟩:=ob
 dsimp only at hrow hnl
 have hnl2:=aj ns
 by_cases hk:ok=1
 case neg =>
   replace hta:=hta (yV fun h=>hk h.1)
   repeat' (first|refine W_ ?_|(refine ak ?_;intro ss bb)|refine ac ?_)
   exact ah (i+1) ⟨by omega,hta⟩ (by omega) (.of _ nw_ od_ pk_)
 subst hk
 by_cases h3:ns.length=3
 case neg =>
   have h3':¬ (ns.length:Int)=3:=by omega
   replace hta:=hta (yV fun h=>h3 h.2)
   repeat' (first|refine W_ ?_|(refine ak ?_;intro ss bb)|refine ac ?_)
   exact ah (i+1) ⟨by omega,hta⟩ (by omega) (.of _ nw_ od_ pk_)
 obtain⟨n0,n1,n2,rfl⟩:=ag0 h3
 clear hnl hnl2 h3
 rw[age] at hta hbad
 simp only[aS,ZU,Yj] at hrow
 have hln:([[.int .i64 n0],[.int .i64 n1],[.int .i64 n2]]:List (List TV)).length=3:=rfl
 have hct:=eE n0 n1 n2
 cases hB:zW m n0 n1 n2
 ·rw[hB] at hct
  rw[hbad fun h=>by rw[xm h] at hB;cases hB]
  repeat' (first|refine W_ ?_|(refine ak ?_;intro ss bb)|refine ac ?_|refine ae hG hst (hct) ?_)
  exact r1_
 ·rw[hB] at hct
  replace hta:=hta (adT hB)
  repeat' (first|refine W_ ?_|(refine ak ?_;intro ss bb)|refine ac ?_|refine ae hG hst (hct) ?_)
  exact ah (i+1) ⟨by omega,hta⟩ (by omega) (.of _ nw_ od_ pk_)
end Go.Proofs.YtifcomgnmokimaaGreatDoor
