/- Part 41 of the proof: the texts ImR. -/
import Derived.Test.YtifcomgnmokimaaGreatDoorRt38
import Derived.Test.YtifcomgnmokimaaGreatDoorRt34
import Derived.Test.YtifcomgnmokimaaGreatDoorRt36
import Derived.Test.YtifcomgnmokimaaGreatDoorRt33
set_option linter.all false
set_option maxHeartbeats 8000000
set_option maxRecDepth 20000
namespace Go.Proofs.YtifcomgnmokimaaGreatDoor
open Go Go.RowKit
open Classical in
theorem abv {m:ad} {a:Int} (h:kg m a=true):d7 m a:=of_decide_eq_true h
open Classical in
theorem yN {m:ad}:vM m=true↔∀o∈m.store.objects,xL m o:=decide_eq_true_iff
theorem sw (f lo:Nat) (m:ad) (hsm:m.small 1048576):Ct Tryz.prog GL 22 [.cp f (m.tw lo)] (fun _=>.bool (da m)):=by
 refine av Tryz.func22 rfl Tryz.ntmps22 rfl rfl fun w0 _ hG=>?_
 have hst:=en
 have hF:=aby (m:=m)
 have hT:=ack (m:=m)
 have hlx:=ao.len lo m.contexts
 have hlb:=aq.len lo m.blocks
 have hlp:=ag.len lo m.processes
 have hlo:=ar.len lo m.store.objects
 have hxl:=hsm.2.2.2.1.1
 have hbl:=hsm.2.2.1.1
 have hpl:=hsm.2.2.2.2.1.1
 have hol:=hsm.2.1.2.1.1
 have c1:=qu 0 lo m.base.classes m.base.entries m.base.codes m.base.main hsm.1.1 hsm.1.2.1 hsm.1.2.2
 have c2:=aam (G:=GL) hst lo lo m.base.classes m.store.classes hsm.1.1 hsm.2.1.1
 have c3:=uT 0 lo m.store hsm.2.1 m.blocks.length
 have d1:=bC (G:=GL) m.status 0 5
 have d2:=bC (G:=GL) m.processes.length 1 20
 have d3:=bC (G:=GL) m.now 0 ((m.processes.length:Int) - 1)
 have d4:=fh 0 lo m.store m.blocks.length m.value hsm.2.2.2.2.2.2.1
 have d5:=ik 3 0 m.fault hsm.2.2.2.2.2.2.2
 have d6:=pA (G:=GL) m.fault
 rw[oz] at d5
 unfold aQ.tw at c3 d4
 have e16:=pX hst 0 lo (.sl lo 3 (m.base.classes.map (aa.tw lo))) (.sl lo 4 (m.base.entries.map (aD.tw lo))) m.base.codes m.base.main hsm.1.2.1
 have eX:=fun hcl h16 hc1 o ho k hk=>sH f lo w0.heap.size m hsm hcl h16 hc1 o ho k hk
 have eB:=fun hc1 o ho b=>rF f lo w0.heap.size m hsm hc1 o ho b
 have eA:=fun h800 hsem hp1=>xx f lo m hsm h800 hsem hp1
 have eC:=fun hdep hsd hpl p hp=>vR f lo m hsm hdep hsd hpl p hp
 have eE:=fun hsd=>nJ f lo m hsm hsd
 unfold ad.tw at eX eB eA eC eE |-
 have hv1:acu m->dM m.base=true:=fun h=>h.ver
 cases hV:dM m.base
 case false =>
   rw[hF fun h=>by rw[hV] at hv1;cases hv1 h]
   replace c1:Ct Tryz.prog GL 73 [.cp 0 [.sl lo 3 (m.base.classes.map (aa.tw lo)),.sl lo 4 (m.base.codes.map (aB.tw lo)),.sl lo 4 (m.base.entries.map (aD.tw lo)),.int .i64 m.base.main]] (fun _=>.bool false):=hV ▸ c1
   repeat' (first|refine V_ ?_|refine dv hG hst (c1) ?_)
   exact r1_
 replace c1:Ct Tryz.prog GL 73 [.cp 0 [.sl lo 3 (m.base.classes.map (aa.tw lo)),.sl lo 4 (m.base.codes.map (aB.tw lo)),.sl lo 4 (m.base.entries.map (aD.tw lo)),.int .i64 m.base.main]] (fun _=>.bool true):=hV ▸ c1
 by_cases hS:m.base.classes=m.store.classes
 case neg =>
   rw[hF fun h=>hS h.same]
   rw[q9 hS] at c2
   repeat' (first|refine V_ ?_|refine dv hG hst (c1) ?_|refine ai hG hst (c2) ?_)
   exact r1_
 rw[yC hS] at c2
 cases hR:lA m.store m.blocks.length
 case false =>
   rw[hF fun h=>by have:=h.store;rw[hR] at this;cases this]
   rw[hR] at c3
   repeat' (first|refine V_ ?_|refine dv hG hst (c1) ?_|refine dv hG hst (c3) ?_|refine ai hG hst (c2) ?_)
   exact r1_
 rw[hR] at c3
 by_cases hM:(m.store.objects.length:Int)+m.blocks.length<=m.store.made
 case neg =>
   rw[hF fun h=>hM h.made]
   have hM':(m.blocks.length:Int)+m.store.objects.length > m.store.made:=by omega
   repeat' (first|refine V_ ?_|refine dv hG hst (c1) ?_|refine dv hG hst (c3) ?_|refine ai hG hst (c2) ?_)
   exact r1_
 have hM':¬ (m.blocks.length:Int)+m.store.objects.length > m.store.made:=by omega
 repeat' (first|refine HV_ 3 ?_|refine dv hG hst (c1) ?_|refine dv hG hst (c3) ?_|refine ai hG hst (c2) ?_)
 refine⟨?_⟩
 clear c1 c2 c3 hM'
 cases h1:inR m.status 0 5
 case false =>
   rw[hF fun h=>by have:=h.status;rw[h1] at this;cases this]
   rw[h1] at d1
   repeat' (first|refine V_ ?_|refine ai hG hst (d1) ?_)
   exact r1_
 rw[h1] at d1
 cases h2:inR m.processes.length 1 20
 case false =>
   rw[hF fun h=>by have:=h.procs;rw[h2] at this;cases this]
   rw[h2] at d2
   repeat' (first|refine V_ ?_|refine ai hG hst (d1) ?_|refine ai hG hst (d2) ?_)
   exact r1_
 rw[h2] at d2
 have h2':=of_decide_eq_true h2
 have hp1:1<=m.processes.length:=by omega
 cases h3:inR m.now 0 ((m.processes.length:Int) - 1)
 case false =>
   rw[hF fun h=>by have:=h.now;rw[h3] at this;cases this]
   rw[h3] at d3
   rw[show (m.processes.length:Int) - 1=((m.processes.length - 1:Nat):Int) by omega] at d3
   repeat' (first|refine V_ ?_|refine ai hG hst (d1) ?_|refine ai hG hst (d2) ?_|refine ai hG hst (d3) ?_)
   exact r1_
 rw[h3] at d3
 rw[show (m.processes.length:Int) - 1=((m.processes.length - 1:Nat):Int) by omega] at d3
 cases h4:cD m.store m.blocks.length m.value
 case false =>
   rw[hF fun h=>by have:=h.value;unfold mL at this;rw[h4] at this;cases this]
   rw[h4] at d4
   repeat' (first|refine V_ ?_|refine ai hG hst (d1) ?_|refine ai hG hst (d2) ?_|refine ai hG hst (d3) ?_|refine dv hG hst (d4) ?_)
   exact r1_
 rw[h4] at d4
 cases h5:gN m.fault
 case false =>
   rw[hF fun h=>by have:=h.fault;rw[h5] at this;cases this]
   rw[h5] at d5
   repeat' (first|refine V_ ?_|refine ai hG hst (d1) ?_|refine ai hG hst (d2) ?_|refine ai hG hst (d3) ?_|refine ai hG hst (d5) ?_|refine ai hG hst (d6) ?_|refine dv hG hst (d4) ?_)
   exact r1_
 rw[h5] at d5
 repeat' (first|refine HV_ 5 ?_|refine ai hG hst (d1) ?_|refine ai hG hst (d2) ?_|refine ai hG hst (d3) ?_|refine ai hG hst (d5) ?_|refine ai hG hst (d6) ?_|refine dv hG hst (d4) ?_)
 refine⟨?_⟩
 clear d1 d2 d3 d4 d5 d6
 obtain⟨hc1,o,ho,hoL⟩:=dU hV
 obtain⟨hsc,h800,hsem⟩:=nq hR
 have hcl:=sR hsc
 have h16:=(lU hsc).1.1
 replace eX:=eX hcl h16 hc1 o hoL
 replace eB:=eB hc1 o hoL
 replace eA:=eA h800 hsem hp1
 have hdep:=pT hV
 unfold aeC at e16
 rw[ho] at e16
 replace e16:Ct Tryz.prog GL 79 [.cp 0 [.sl lo 3 (m.base.classes.map (aa.tw lo)),.sl lo 4 (m.base.codes.map (aB.tw lo)),.sl lo 4 (m.base.entries.map (aD.tw lo)),.int .i64 m.base.main]] (fun K=>.tup [.sl K 1 (aS o),.bool true]):=e16
 repeat' (first|refine W_ ?_|refine wb hG hst (e16) ?_)
 apply ap (X:=Nat) [0,3] (fun i=>[(5,.int .i64 (i:Int))]) (fun _=>[]) (fun i=>i<=m.contexts.length/\∀j (h:j<m.contexts.length),j<i->qI m o j m.contexts[j]=true) (fun i=>m.contexts.length - i) 0 ⟨Ze _,fun _ _ h=>absurd h (Xc _)⟩
 exact kp_;exact nw_
 ·exact .refl _
 rintro i ⟨hi,hall⟩
 try dsimp only
 by_cases hlt:i<m.contexts.length
 ·have hct:=eX i hlt
  cases hB:qI m o i m.contexts[i]
  ·rw[hF fun h=>by have:=(h.outs o ho).1 i hlt;rw[hB] at this;cases this]
   rw[hB] at hct
   repeat' (first|refine W_ ?_|refine ae hG hst (hct) ?_)
   exact r1_
  ·rw[hB] at hct
   repeat' (first|refine W_ ?_|refine ae hG hst (hct) ?_)
   exact ah (i+1) ⟨by omega,fun j h hj=>by
     rcases YB j i with h1|h1
     ·exact hall j h h1
     ·obtain rfl:j=i:=by omega
      exact hB⟩ (by omega) (.of _ nw_ od_ pk_)
 obtain rfl:i=m.contexts.length:=by omega
 have hctx:∀j (h:j<m.contexts.length),qI m o j m.contexts[j]=true:=fun j h=>hall j h h
 have hsd:=pH hctx
 have hplain:∀(i:Nat) (h:i<m.contexts.length),m.contexts[i].mark=0->(0<=m.contexts[i].code/\m.contexts[i].code<m.base.codes.length)/\0<=m.contexts[i].pc:=fun i h h0=>by
   obtain⟨x,_,h2,h3,_⟩:=vJ (hctx i h) h0
   exact⟨h2,h3.1⟩
 replace eC:=eC hdep hsd hplain
 replace eE:=eE hsd
 clear hall eX hdep hplain e16 hlt hi
 repeat' refine W_ ?_
 apply ap (X:=Nat) [0,3] (fun i=>[(6,.int .i64 (i:Int))]) (fun _=>[]) (fun i=>i<=m.blocks.length/\∀b∈m.blocks.take i,ks m o b=true) (fun i=>m.blocks.length - i) 0 ⟨Ze _,by simp⟩
 exact kp_;exact nw_
 ·exact .refl _
 rintro i ⟨hi,hall⟩
 try dsimp only
 by_cases hlt:i<m.blocks.length
 ·have hrow:=rZ (lo:=lo) hlt
  have hct:=eB m.blocks[i]
  have hta:=aY (p:=fun b=>ks m o b=true) hlt hall
  have hbad:ks m o m.blocks[i]=false->da m=false:=fun hB=>hF fun h=>by have:=(h.outs o ho).2 _ (Zb hlt);rw[hB] at this;cases this
  generalize m.blocks[i]=b at hrow hct hta hbad
  cases hB:ks m o b
  ·rw[hbad hB]
   rw[hB] at hct
   repeat' (first|refine W_ ?_|refine ae hG hst (hct) ?_)
   exact r1_
  ·rw[hB] at hct
   repeat' (first|refine W_ ?_|refine ae hG hst (hct) ?_)
   exact ah (i+1) ⟨by omega,hta hB⟩ (by omega) (.of _ nw_ od_ pk_)
 obtain rfl:i=m.blocks.length:=by omega
 rw[Zc (Zg _)] at hall
 have houts:aeH m o:=⟨hctx,hall⟩
 clear hall eB hlt hi hctx
 repeat' refine W_ ?_
 apply ap (X:=Nat) [0] (fun i=>[(7,.int .i64 (i:Int))]) (fun _=>[]) (fun i=>i<=m.processes.length/\∀p∈m.processes.take i,inR p.at_ (-1) ((m.contexts.length:Int) - 1)=true) (fun i=>m.processes.length - i) 0 ⟨Ze _,by simp⟩
 exact kp_;exact nw_
 ·exact .refl _
 rintro i ⟨hi,hall⟩
 try dsimp only
 by_cases hlt:i<m.processes.length
 ·have hrow:=rN (lo:=lo) hlt
  have hta:=aY (p:=fun p=>inR p.at_ (-1) ((m.contexts.length:Int) - 1)=true) hlt hall
  have hbad:inR m.processes[i].at_ (-1) ((m.contexts.length:Int) - 1)=false->da m=false:=fun hB=>hF fun h=>by have:=h.ats _ (Zb hlt);rw[hB] at this;cases this
  generalize m.processes[i]=p at hrow hta hbad
  have hct:=bC (G:=GL) p.at_ (-1) ((m.contexts.length:Int) - 1)
  have hcs:(m.contexts.length:Int) - 1=((m.contexts.length - 1:Nat):Int)\/¬ 1<=m.contexts.length:=by omega
  cases hB:inR p.at_ (-1) ((m.contexts.length:Int) - 1)
  ·rw[hbad hB]
   rw[hB] at hct
   rcases hcs with hcs|hcs
   ·rw[hcs] at hct
    have hcs1:1<=m.contexts.length:=by omega
    repeat' (first|refine V_ ?_|refine ai hG hst (hct) ?_)
    exact r1_
   ·repeat' (first|refine V_ ?_|refine ai hG hst (hct) ?_)
    exact r1_
  ·rw[hB] at hct
   rcases hcs with hcs|hcs
   ·rw[hcs] at hct
    have hcs1:1<=m.contexts.length:=by omega
    repeat' (first|refine V_ ?_|refine ai hG hst (hct) ?_)
    exact ah (i+1) ⟨by omega,hta hB⟩ (by omega) (.of _ nw_ od_ pk_)
   ·repeat' (first|refine V_ ?_|refine ai hG hst (hct) ?_)
    exact ah (i+1) ⟨by omega,hta hB⟩ (by omega) (.of _ nw_ od_ pk_)
 obtain rfl:i=m.processes.length:=by omega
 rw[Zc (Zg _)] at hall
 have hats:=hall
 clear hall hlt hi
 unfold acw at eA
 cases hA:alO m
 case none =>
   have hna:=adh hA
   rw[hF fun h=>hna ⟨h.live.1,h.live.2.1⟩]
   rw[hA] at eA
   replace eA:Ct Tryz.prog GL 82 _ (fun K=>.tup [.sl K 1 [],.bool false]):=eA
   repeat' (first|refine W_ ?_|refine ae hG hst (eA) ?_)
   apply ap (X:=Nat) [0,9] (fun i=>[(10,.int .i64 (i:Int)),(8,.sl w0.heap.size 1 [])]) (fun _=>[]) (fun i=>i=0) (fun i=>1 - i) 0 rfl
   exact kp_;exact nw_
   ·exact .refl _
   rintro i rfl
   try dsimp only
   have hd1:decide (((0:Nat):Int)<((List.length ([]:List (List TV)):Nat):Int))=false:=by simp
   repeat' (first|refine W_ ?_|rw[hd1])
   exact r1_
 case some L =>
   obtain⟨hLe,hLok⟩:=adz hA
   rw[hA] at eA
   replace eA:Ct Tryz.prog GL 82 _ (fun K=>.tup [.sl K 1 (aS L),.bool true]):=eA
   have hLl:=aj L
   have hLn:L.length<=900000000:=by
     have h1:=wO m
     have h2:=vX (l:=m.store.objects) (Zg _) fun o h=>(hsm.2.1.2.1.2 o h).2
     rw[Zc (Zg _)] at h2
     have h3:=hsm.2.2.2.2.2.1
     have h4:(wB m).length<=m.store.objects.length * 1048576:=h2
     rw[hLe,Zh,Zh]
     omega
   have hbad:∀p∈L,∀q,m.processes[p.toNat]?=some q->¬ d7 m q.at_->da m=false:=fun p hp q hq hn=>hF fun h=>hn (h.live.2.2 p (hLe ▸ hp) q hq)
   have hgood:(∀p∈L,∀q,m.processes[p.toNat]?=some q->d7 m q.at_)->vM m=true->da m=true:=fun k1 k2=>hT ⟨hV,hS,hR,hM,h1,h2,h3,h4,h5,fun o' ho'=>by rw[ho] at ho';cases ho';exact houts,hats,hLe ▸ ⟨hLok.1,hLok.2,k1⟩,yN.1 k2⟩
   have hbadE:vM m=false->da m=false:=fun hB=>hF fun h=>by have:=yN.2 h.exc;rw[hB] at this;cases this
   generalize da m=V at hbad hgood hbadE |-
   generalize hXB:vM m=XB at eE hgood hbadE
   clear hT hF hv1 hV hS hR hM h1 h2 h3 h4 h5 houts hats hA hLe hXB
   repeat' (first|refine W_ ?_|refine ae hG hst (eA) ?_)
   apply ap (X:=Nat×Bool) [0,8] (fun x=>[(10,.int .i64 (x.1:Int)),(9,.bool x.2)]) (fun _=>[]) (fun x=>x.1<=L.length/\(x.2=true->∀p∈L.take x.1,∀q,m.processes[p.toNat]?=some q->d7 m q.at_)/\(x.2=false->V=false)) (fun x=>L.length - x.1) (0,true) ⟨Ze _,fun _=>by simp,fun h=>by cases h⟩
   exact kp_;exact nw_
   ·exact .refl _
   rintro ⟨i,ok⟩ ⟨hi,ha,hb⟩
   dsimp only at hi ha hb |-
   by_cases hlt:i<L.length
   ·cases ok
    ·rw[hb rfl]
     repeat' refine W_ ?_
     exact r1_
    have hrow:=kD hlt
    have hin:=hLok.1 _ (Zb hlt)
    obtain⟨u,hu⟩:∃u:Nat,L[i]=u:=⟨L[i].toNat,by omega⟩
    have hul:u<m.processes.length:=by omega
    have hct:=eC u hul
    have hq:m.processes[L[i].toNat]?=some m.processes[u]:=by rw[hu,ZB,Za hul]
    have hta:=aY (p:=fun p=>∀q,m.processes[p.toNat]?=some q->d7 m q.at_) hlt (ha rfl)
    have hbi:=hbad _ (Zb hlt) _ hq
    rw[hu] at hrow
    cases hB:kg m m.processes[u].at_
    ·rw[hB] at hct
     have hVf:V=false:=hbi fun h=>by rw[rP h] at hB;cases hB
     repeat' (first|refine W_ ?_|refine ae hG hst (hct) ?_)
     exact ah (i+1,false) ⟨by dsimp only;omega,fun h=>(by cases h),fun _=>hVf⟩ (by dsimp only;omega) (.of _ nw_ od_ pk_)
    ·rw[hB] at hct
     have hcp:=abv hB
     repeat' (first|refine W_ ?_|refine ae hG hst (hct) ?_)
     exact ah (i+1,true) ⟨by dsimp only;omega,fun _=>hta fun q hqq=>by rw[hq] at hqq;cases hqq;exact hcp,fun h=>(by cases h)⟩ (by dsimp only;omega) (.of _ nw_ od_ pk_)
   ·obtain rfl:i=L.length:=by omega
    rw[Zc (Zg _)] at ha
    cases ok
    ·rw[hb rfl]
     repeat' refine W_ ?_
     exact r1_
    have hVX:V=XB:=by
      cases XB
      ·exact hbadE rfl
      ·exact hgood (ha rfl) rfl
    rw[hVX]
    repeat' (first|refine W_ ?_|refine ae hG hst (eE) ?_)
    exact r1_
end Go.Proofs.YtifcomgnmokimaaGreatDoor
