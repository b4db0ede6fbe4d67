/- Part 43 of the proof: the texts ImU, RcQ, RfP, RtP, RtM, RtN, RtO, RtQ, RuM, RuN, RuO, RtG, RuG, RtL, RuL, RuW, RtW, RtS, SzB. -/
import Derived.Test.YtifcomgnmokimaaGreatDoorRt41
import Derived.Test.YtifcomgnmokimaaGreatDoorRt40
import Derived.Test.YtifcomgnmokimaaGreatDoorRt27
import Derived.Test.YtifcomgnmokimaaGreatDoorRt38
import Derived.Test.YtifcomgnmokimaaGreatDoorRt24
import Derived.Test.YtifcomgnmokimaaGreatDoorRt42
import Derived.Test.YtifcomgnmokimaaGreatDoorRt3
import Derived.Test.YtifcomgnmokimaaGreatDoorRt32
import Derived.Test.YtifcomgnmokimaaGreatDoorRt34
import Derived.Test.YtifcomgnmokimaaGreatDoorRt10
import Derived.Test.YtifcomgnmokimaaGreatDoorRt13
set_option linter.all false
set_option maxHeartbeats 8000000
set_option maxRecDepth 20000
namespace Go.Proofs.YtifcomgnmokimaaGreatDoor
open Go Go.RowKit
theorem abR (x:ab):x.pt.tvs=x.tw 0:=by simp[PT.tvs,PT.tvsL,ab.pt,ab.tw]
theorem aal {t:PT} {x:ar} (h:gx t x):t.tvs=x.tw 0:=by
 obtain⟨A2,c2,A3,c3,rfl⟩:=h
 simp[PT.tvs,PT.tvsL,ar.tw,ab.pt,ab.tw,aS,PT.rowsL_map,Function.comp_def]
theorem abC {t:PT} {x:aQ} (h:gP t x):t.tvs=x.tw 0:=by
 obtain⟨A0,c0,l0,A1,c1,l1,A2,c2,h0,h1,rfl⟩:=h
 simp only[PT.tvs,PT.tvsL,aQ.tw,oV h0 (fun _ _=>kX),oV h1 (fun _ _=>aal),PT.rowsL_map,List.map_map,Zt,ZF,Zx]
 rfl
theorem vP {t:PT} {x:ao} (h:fK t x):t.tvs=x.tw 0:=by
 obtain⟨A7,c7,A8,c8,A9,c9,rfl⟩:=h
 simp[PT.tvs,PT.tvsL,ao.tw,ab.pt,ab.tw,PT.rowsL_map,Function.comp_def]
theorem ab0 {t:PT} {x:ad} (h:ic t x):t.tvs=x.tw 0:=by
 obtain⟨t0,t1,A2,c2,A3,c3,l3,A4,c4,A5,c5,h0,h1,h3,rfl⟩:=h
 simp only[PT.tvs,PT.tvsL,vr h0,abC h1,ad.tw,aF.tw,aQ.tw,oV h3 (fun _ _=>vP),PT.rowsL_map,List.map_map,Zt,ZF,Zx,abR]
 rfl
theorem tT {w:World} {S:Nat->Prop} {t:PT} {x:ar} (h:gx t x) (hs:eF w S t) (hx:x.sane):ar.small 9223372036854775807 x:=by
 obtain⟨A2,c2,A3,c3,rfl⟩:=h
 simp only[eF,cZ] at hs
 obtain⟨_,_,⟨a1,a2,_⟩,⟨b1,b2,_⟩,_⟩:=hs
 simp only[Zf] at a1 b1
 exact⟨⟨Z0 a1 a2,fun y hy=>(hx.2.2.1 y hy).2.2⟩,Z0 b1 b2⟩
theorem wW {w:World} {S:Nat->Prop} {t:PT} {x:aQ} (h:gP t x) (hs:eF w S t) (hx:x.sane):aQ.small 9223372036854775807 x:=by
 obtain⟨A0,c0,l0,A1,c1,l1,A2,c2,h0,h1,rfl⟩:=h
 simp only[eF,cZ] at hs
 obtain⟨⟨a1,a2,_,_,a5⟩,⟨b1,b2,_,_,b5⟩,⟨d1,d2,_,_,_⟩,_⟩:=hs
 simp only[Zf] at d1
 exact⟨⟨by rw[<- h0.1];exact Z0 a1 a2,jP h0 a5 (fun _ _=>jO) hx.1⟩,⟨by rw[<- h1.1];exact Z0 b1 b2,jP h1 b5 (fun _ _=>tT) hx.2.1⟩,Z0 d1 d2,hx.2.2.1⟩
theorem sa {w:World} {S:Nat->Prop} {t:PT} {x:ao} (h:fK t x) (hs:eF w S t) (hx:x.sane):ao.small 9223372036854775807 x:=by
 obtain⟨A7,c7,A8,c8,A9,c9,rfl⟩:=h
 simp only[eF,cZ] at hs
 obtain⟨_,_,_,_,_,_,_,⟨a1,a2,_⟩,⟨b1,b2,_⟩,⟨d1,d2,_⟩,_⟩:=hs
 simp only[Zf] at a1 b1 d1
 obtain⟨_,_,_,_,_,_,g6,g7,g8,g9,_⟩:=hx
 exact⟨g6.2.2,⟨Z0 a1 a2,fun y hy=>(g7 y hy).2.2⟩,⟨Z0 b1 b2,fun y hy=>(g8 y hy).2.2⟩,⟨Z0 d1 d2,fun y hy=>(g9 y hy).2.2⟩⟩
theorem vW {w:World} {S:Nat->Prop} {t:PT} {x:ad} (h:ic t x) (hs:eF w S t) (hx:x.sane):ad.small 9223372036854775807 x:=by
 obtain⟨t0,t1,A2,c2,A3,c3,l3,A4,c4,A5,c5,h0,h1,h3,rfl⟩:=h
 simp only[eF,cZ] at hs
 obtain⟨s0,s1,⟨a1,a2,_⟩,⟨b1,b2,_,_,b5⟩,⟨d1,d2,_⟩,⟨e1,e2,_⟩,_⟩:=hs
 simp only[Zf] at a1 d1 e1
 obtain⟨g0,g1,g2,g3,_,_,_,_,g8,g9⟩:=hx
 exact⟨p9 h0 s0 g0,wW h1 s1 g1,⟨Z0 a1 a2,fun y hy=>(g2 y hy).2.2.2.2.2⟩,⟨by rw[<- h3.1];exact Z0 b1 b2,jP h3 b5 (fun _ _=>sa) g3⟩,⟨Z0 d1 d2,fun _ _=>trivial⟩,Z0 e1 e2,g8.2.2,g9⟩
theorem ade {m:ad} {v:ab} (h:mL m v) (h6:v.kind=6):0<=v.number/\v.number<m.store.objects.length:=by
 unfold mL cD kf at h
 rw[h6] at h
 simp at h
 omega
structure aiH (m:ad):Prop where
 val:mL m m.value
 fld:∀o∈m.store.objects,∀v∈o.fields,mL m v
 one:∀o∈m.store.objects,o.kind=1->o.numbers=[]\/∃a b c,o.numbers=[a,b,c]/\(-1<=a/\a<m.contexts.length)/\(-1<=b/\b<m.contexts.length)
 sem:∀o∈m.store.objects,o.kind=3->1<=o.numbers.length/\∀p∈o.numbers.drop 1,0<=p/\p<m.processes.length
 blk:∀b∈m.blocks,mL m b.self/\(0<=b.outer/\b.outer<m.contexts.length)/\(0<=b.home/\b.home<m.contexts.length)
 ctx:∀(i:Nat) (h:i<m.contexts.length),(-1<=m.contexts[i].sender/\m.contexts[i].sender<i)/\(-1<=m.contexts[i].outer/\m.contexts[i].outer<i)/\(-1<=m.contexts[i].home/\m.contexts[i].home<=i)/\(m.contexts[i].mark=3\/m.contexts[i].mark=5->-1<=m.contexts[i].other/\m.contexts[i].other<i)/\mL m m.contexts[i].self/\(∀v∈m.contexts[i].slots,mL m v)/\(∀v∈m.contexts[i].stack,mL m v)/\∀v∈m.contexts[i].values,mL m v
 prc:∀p∈m.processes,-1<=p.at_/\p.at_<m.contexts.length
 now:0<=m.now/\m.now<m.processes.length
 rdy:∀p∈m.ready,0<=p/\p<m.processes.length
def ady (o:ar):ar:=⟨o.kind,o.class_,o.fields,[-1,-1,0]⟩
def acY (os:List ar) (n:Nat):List ar:=match os[n]? with
 | some o=>if o.kind=1/\o.numbers.length=3 then os.set n (ady o) else os
 | none=>os
theorem acV (os:List ar) (n:Nat):(acY os n).length=os.length:=by
 unfold acY
 split
 ·split <;> simp
 ·rfl
def hdN (c:ao):Nat:=match c.values with
 | v::_=>v.number.toNat
 | []=>0
def rsF (m:ad) (a:Int):Nat->Int->List ar->List ar
 | 0,_,os=>os
 | n+1,k,os=>if k=a then os else match cxA m k with
   | some c=>rsF m a n c.sender (if c.mark=3 then acY os (hdN c) else os)
   | none=>os
def aeu (m:ad) (a k:Int) (os:List ar):List ar:=rsF m a (k+1).toNat k os
theorem zt {os:List ar} (h:∀y∈os,ar.small 1048576 y) (n:Nat):∀y∈acY os n,ar.small 1048576 y:=by
 unfold acY
 split
 ·rename_i o ho
  split
  ·intro y hy
   rcases Z7 hy with hy|rfl
   ·exact h y hy
   ·exact⟨(h o (Zm ho)).1,by show (3:Nat)<=_;omega⟩
  ·exact h
 ·exact h
def zV:ab:=⟨0,0,⟨#[]⟩⟩
def aim (l:List ab) (n q:Nat):List ab:=l.take n++aiD (fun _=>zV) (l.drop n) q
def rsP (m:ad) (c:ao):Nat:=match cdA m c.code with|some x=>x.params.toNat|none=>0
def rsC (m:ad) (c:ao):ao:=⟨c.mark,c.code,0,c.sender,c.outer,c.home,c.self,aim c.slots (rsP m c) (c.slots.length - rsP m c),[],c.values,c.other,c.retry⟩
def fb (m:ad) (os:List ar) (cs:List ao) (ps:List ag):ad:=⟨m.base,⟨m.store.classes,os,m.store.output,m.store.ticks,m.store.budget,m.store.made⟩,m.blocks,cs,ps,m.ready,m.now,m.status,m.value,m.fault⟩
theorem gX {α β:Type} (mk:α->β->List TV) (ob:α->β->aG) (l:List α) (ps:List β) (hp:ps.length=l.length) {q:Nat} (hq:q<l.length):∃p E,ps[q]?=some p/\(nRg mk l ps)[q]?=some (mk l[q] p)/\(nOg ob l ps).Perm (ob l[q] p++E)/\∀x' p',nRg mk (l.set q x') (ps.set q p')=(nRg mk l ps).set q (mk x' p')/\(nOg ob (l.set q x') (ps.set q p')).Perm (ob x' p'++E):=by
 have hpq:ps[q]?=some (ps[q]'(by omega)):=Za _
 have hx:l[q]?=some l[q]:=Za hq
 refine⟨ps[q]'(by omega),ngE ob l ps q,hpq,kA mk hx hpq,pu ob hx hpq,fun x' p'=>⟨?_, ?_⟩⟩
 ·unfold nRg
  rw[xN]
 ·have h:=pu ob (l:=l.set q x') (ps:=ps.set q p') (i:=q) (p:=p') (x:=x') (by rw[ZN hq]) (by rw[ZN (by omega)])
  have e:ngE ob (l.set q x') (ps.set q p') q=ngE ob l ps q:=by
    unfold ngE
    rw[xN,lH]
  rwa [e] at h
theorem aaF {m:ad} (hs:eY m) (k:Nat):∀h:k<m.contexts.length,∀a∈bR m k,OnW m a k/\∃q:Nat,a=q/\∃hq:q<m.contexts.length,m.contexts[q].mark=0:=by
 induction k using Nat.strongRecOn with
 | _ k ih =>
   intro hk a ha
   have h1:=hs k hk
   rw[jD hs hk] at ha
   rcases List.mem_append.1 ha with h|h
   ·split at h
    ·simp only[ZM] at h
     subst h
     exact⟨.here,k,rfl,hk,‹_›⟩
    ·cases h
   ·by_cases hn:m.contexts[k].sender<0
    ·rw[iQ hn] at h;cases h
    ·obtain⟨s,hs1⟩:∃s:Nat,m.contexts[k].sender=s:=⟨m.contexts[k].sender.toNat,by omega⟩
     rw[hs1] at h
     obtain⟨h2,q,rfl,hq,h3⟩:=ih s (by omega) (by omega) a h
     refine⟨?_,q,rfl,hq,h3⟩
     by_cases he:(k:Int)=(q:Int)
     ·rw[he];exact .here
     ·exact .up k hk he (by rw[hs1];exact h2)
noncomputable def dL (m:ad) (k:Int):Bool:=da m && (decide (m.status=0) && inR k 0 (((bR m (atN m)).length:Int) - 1))
noncomputable def afX (m:ad) (k:Int):Nat:=match (bR m (atN m))[k.toNat]? with|some a=>a.toNat|none=>0
noncomputable def uU (m:ad) (a n:Nat):ad:=match m.contexts[a]?,m.processes[n]? with
 | some c,some p=>fb m (aeu m a p.at_ m.store.objects) (m.contexts.set a (rsC m c)) (m.processes.set n ⟨a,p.main⟩)
 | _,_=>m
noncomputable def lj (m:ad) (k:Int):ad:=if dL m k=true then uU m (afX m k) m.now.toNat else zIm
open Classical in
structure aii (m:ad) (k:Int) (kn a n:Nat) (c:ao) (p:ag) (x:aB):Prop where
 img:da m=true
 st:m.status=0
 kk:k=kn
 now:m.now=n
 fr:(bR m (atN m))[kn]?=some (a:Int)
 at_:atN m=p.at_
 prc:m.processes[n]?=some p
 ctx:m.contexts[a]?=some c
 onw:OnW m a p.at_
 cod:∃q:Nat,c.code=q/\m.base.codes[q]?=some x
 par:0<=x.params/\x.params<=c.slots.length
 sen:eY m
 lt:-1<=p.at_/\p.at_<m.contexts.length
 eq:lj m k=fb m (aeu m a p.at_ m.store.objects) (m.contexts.set a ⟨c.mark,c.code,0,c.sender,c.outer,c.home,c.self,aim c.slots x.params.toNat (c.slots.length - x.params.toNat),[],c.values,c.other,c.retry⟩) (m.processes.set n ⟨a,p.main⟩)
 hdl:∀(i:Nat) (h:i<m.contexts.length),m.contexts[i].mark=3->∃v q,m.contexts[i].values=[v]/\v.kind=6/\v.number=(q:Nat)/\q<m.store.objects.length
open Classical in
theorem aet {m:ad} (h:da m=true):∀(i:Nat) (h:i<m.contexts.length),m.contexts[i].mark=3->∃v q,m.contexts[i].values=[v]/\v.kind=6/\v.number=(q:Nat)/\q<m.store.objects.length:=fun i hi h3=>by
 have hp:acu m:=of_decide_eq_true h
 obtain⟨_,o,ho,_⟩:=dU hp.ver
 have hc:=iq ((hp.outs o ho).1 i hi)
 have h1:=hc.2.2.2.2.2
 have hv:=hc.2.2.2.2.1
 rw[if_neg (by omega)] at h1
 simp only[Zq] at h1
 have h2:=h1.2.1
 unfold tK at h2
 rw[if_neg (by omega),if_neg (by omega),if_pos h3] at h2
 rcases hvs:m.contexts[i].values with _|⟨v,_|⟨b,l⟩⟩
 ·rw[hvs] at h2;cases h2
 ·rw[hvs,wc] at h2
  simp only[Zq] at h2
  have h6:v.kind=6:=of_decide_eq_true h2.1
  have hf:=ade (kR hv v (by rw[hvs];exact Zi)) h6
  exact⟨v,v.number.toNat,rfl,h6,by omega,by omega⟩
 ·rw[hvs] at h2;cases h2
open Classical in
theorem agj {m:ad} (h:da m=true) {a:Nat} {c:ao} (hc:m.contexts[a]?=some c) (h0:c.mark=0):∃x,(∃q:Nat,c.code=q/\m.base.codes[q]?=some x)/\0<=x.params/\x.params<=c.slots.length:=by
 have hp:acu m:=of_decide_eq_true h
 obtain⟨_,o,ho,_⟩:=dU hp.ver
 obtain⟨ha,rfl⟩:=List.getElem?_eq_some_iff.1 hc
 have h1:=(iq ((hp.outs o ho).1 a ha)).2.2.2.2.2
 rw[if_pos h0] at h1
 unfold plB at h1
 simp only[Zq] at h1
 obtain⟨_,_,_,h4,h5⟩:=h1
 have h4:0<=m.contexts[a].code/\m.contexts[a].code<=(m.base.codes.length:Int) - 1:=of_decide_eq_true h4
 cases hx:cdA m m.contexts[a].code with
 | none=>rw[hx] at h5;cases h5
 | some x =>
   rw[hx] at h5
   simp only[Zq] at h5
   have h6:(m.contexts[a].slots.length:Int)=x.slots:=of_decide_eq_true h5.1
   obtain⟨_,hl,hxe⟩:=nZ hx
   have hv:d9 m.base:=of_decide_eq_true hp.ver
   obtain⟨o2,ho2,hk⟩:=hv.2.2.2.2
   have h7:=(hk _ hl).1.2.1
   rw[hxe] at h7
   have h7:0<=x.params/\x.params<=x.slots:=of_decide_eq_true h7
   exact⟨x,⟨m.contexts[a].code.toNat,by omega,by rw[Za hl,hxe]⟩,by omega⟩
theorem rc {m:ad} {k:Int} (h:dL m k=true):∃kn a n c p x,aii m k kn a n c p x:=by
 have h0:=h
 unfold dL at h
 simp only[Zq] at h
 obtain⟨h1,h2,h3⟩:=h
 have h2:m.status=0:=of_decide_eq_true h2
 have h3:0<=k/\k<=((bR m (atN m)).length:Int) - 1:=of_decide_eq_true h3
 obtain⟨hs,n,p,hn,hnl,hp,ha,hl1,hl2⟩:=ld h1
 have hkl:k.toNat<(bR m (atN m)).length:=by omega
 have hmem:(bR m (atN m))[k.toNat]∈bR m (atN m):=Zb hkl
 have hge:0<=p.at_:=Int.not_lt.1 fun hlt=>by
   rw[ha,iQ hlt] at hkl
   exact absurd hkl (Xc _)
 obtain⟨t,ht⟩:∃t:Nat,p.at_=t:=⟨p.at_.toNat,by omega⟩
 have hon:∀b∈bR m (atN m),OnW m b p.at_/\∃q:Nat,b=q/\∃hq:q<m.contexts.length,m.contexts[q].mark=0:=by
   rw[ha,ht]
   exact aaF hs t (by omega)
 obtain⟨g1,a,g2,g3,g4⟩:=hon _ hmem
 have hc:m.contexts[a]?=some m.contexts[a]:=Za g3
 obtain⟨x,⟨q,hq,hx⟩,hpar⟩:=agj h1 hc g4
 have hfr:(bR m (atN m))[k.toNat]?=some (a:Int):=by rw[Za hkl,g2]
 rw[g2] at g1
 refine⟨k.toNat,a,n,_,p,x,h1,h2,by omega,hn,hfr,ha,hp,hc,g1,⟨q,hq,hx⟩,hpar,hs,⟨hl1,hl2⟩, ?_,aet h1⟩
 unfold lj
 rw[if_pos h0]
 have e1:afX m k=a:=by unfold afX;rw[hfr];simp
 have e2:m.now.toNat=n:=by omega
 have e3:cdA m m.contexts[a].code=some x:=by
   unfold cdA
   rw[hq,if_pos (by omega),ZB,hx]
 unfold uU
 rw[e1,e2,hc,hp]
 dsimp only
 unfold rsC rsP
 rw[e3]
inductive Tk where
 | giv (t:Int) (v:ab)
 | lea (i wo:Int) (v:ab) (r:Bool)
inductive Ac where
 | put (t:Nat) (v:ab)
 | aft (t:Nat) (v:ab)
 | unw (t:Nat) (wo:Int) (v:ab) (r:Bool)
 | agn (t:Nat)
 | fin (v:ab)
def goF (m:ad):Nat->List ar->Tk->Option (List ar×Ac)
 | 0,_,_=>none
 | n+1,os,.giv t v=>if t<0 then some (os,.fin v) else match cxA m t with
   | none=>none
   | some c=>if c.mark=0 then some (os,.put t.toNat v)
     else if c.mark=1 then goF m n os (.giv c.sender v)
     else if c.mark=2 then some (os,.aft t.toNat v)
     else if c.mark=3 then (match cxA m c.other with
       | some d=>goF m n os (.lea t d.sender v false)
       | none=>none)
     else if c.mark=4 then (match c.values with
       | [u]=>goF m n os (.giv c.sender u)
       | _=>none)
     else if c.mark=5 then (match c.values with
       | [u]=>goF m n os (.lea c.sender c.other u c.retry)
       | _=>none)
     else none
 | n + 1, os, .lea i wo v r => if 0 <= i /\ i ≠ wo then (match cxA m i with
     | none=>none
     | some c=>if c.mark=2 then some (os,.unw i.toNat wo v r)
       else goF m n (if c.mark=3 then acY os (hdN c) else os) (.lea c.sender wo v r))
   else if r=true then (match cxA m wo with
     | some d=>if d.mark=1 then some (os,.agn wo.toNat) else none
     | none=>none)
   else goF m n os (.giv wo v)
def kv (m:ad) (v:ab):Prop:=v.kind=7/\∃(q:Nat) (b:aq) (cq:Nat) (x:aB),v.number=q/\m.blocks[q]?=some b/\b.code=cq/\m.base.codes[cq]?=some x/\0<=x.slots/\x.slots<=30
structure MkF (m:ad):Prop where
 mrk:∀(i:Nat) (h:i<m.contexts.length),0<=m.contexts[i].mark/\m.contexts[i].mark<=5
 odo:∀(i:Nat) (h:i<m.contexts.length),m.contexts[i].mark=1->∃a b c,m.contexts[i].values=[a,b,c]/\kv m c
 ens:∀(i:Nat) (h:i<m.contexts.length),m.contexts[i].mark=2->∃v,m.contexts[i].values=[v]/\kv m v
 hdl:∀(i:Nat) (h:i<m.contexts.length),m.contexts[i].mark=3->∃v q,m.contexts[i].values=[v]/\v.kind=6/\v.number=(q:Nat)/\q<m.store.objects.length
 hdo:∀(i:Nat) (h:i<m.contexts.length),m.contexts[i].mark=3->∃u:Nat,m.contexts[i].other=u/\u<i
 aft:∀(i:Nat) (h:i<m.contexts.length),m.contexts[i].mark=4->∃v,m.contexts[i].values=[v]
 unw:∀(i:Nat) (h:i<m.contexts.length),m.contexts[i].mark=5->(∃v,m.contexts[i].values=[v])/\(-1<=m.contexts[i].other/\m.contexts[i].other<i)/\(m.contexts[i].retry=true->∃d,cxA m m.contexts[i].other=some d/\d.mark=1)
theorem aa7 {α:Type} {l:List α} (h:l.length=1):∃v,l=[v]:=by
 rcases l with _|⟨v,_|⟨w,r⟩⟩
 ·cases h
 ·exact⟨v,rfl⟩
 ·simp at h
theorem aeb {m:ad} {k i:Int} (h:doB m k i=true):(0<=i/\i<=k - 1)/\∃d,cxA m i=some d/\d.mark=1:=by
 unfold doB at h
 simp only[Zq] at h
 have h1:0<=i/\i<=k - 1:=of_decide_eq_true h.1
 have h2:mkA m i=1:=of_decide_eq_true h.2
 unfold mkA at h2
 cases hc:cxA m i with
 | none=>rw[hc] at h2;cases h2
 | some d=>rw[hc] at h2;exact⟨h1,d,rfl,h2⟩
open Classical in
theorem aeg {m:ad} (hp:acu m) {v:ab} {q:Int} (hv:mL m v) (h:tN m v q=true):kv m v:=by
 obtain⟨h7,b,x,hb,hx,_⟩:aha m v q:=of_decide_eq_true h
 have hn:0<=v.number/\v.number<m.blocks.length:=by
   unfold mL cD kf at hv
   rw[h7] at hv
   simp at hv
   omega
 obtain⟨h0,hl,he⟩:=nZ hx
 have hvp:d9 m.base:=of_decide_eq_true hp.ver
 obtain⟨o2,_,hk⟩:=hvp.2.2.2.2
 have h6:=(hk _ hl).1.1
 have h8:0<=(m.base.codes[b.code.toNat]).slots/\(m.base.codes[b.code.toNat]).slots<=30:=by simpa [inR] using h6
 rw[he] at h8
 exact⟨h7,v.number.toNat,b,b.code.toNat,x,by omega,hb,by omega,by rw[Za hl,he],h8.1,h8.2⟩
open Classical in
theorem abK {m:ad} (h:da m=true):MkF m:=by
 have hp:acu m:=of_decide_eq_true h
 obtain⟨_,o,ho,_⟩:=dU hp.ver
 have hall:∀(i:Nat) (h:i<m.contexts.length),m.contexts[i].mark≠0->tK m i m.contexts[i]=true/\pS m m.contexts[i].values=true:=fun i hi h0=>by
   have hc:=iq ((hp.outs o ho).1 i hi)
   have h1:=hc.2.2.2.2.2
   rw[if_neg h0] at h1
   simp only[Zq] at h1
   exact⟨h1.2.1,hc.2.2.2.2.1⟩
 refine⟨fun i hi=>?_,fun i hi h1=>?_,fun i hi h2=>?_,aet h,fun i hi h3=>?_,fun i hi h4=>?_,fun i hi h5=>?_⟩
 ·by_cases h0:m.contexts[i].mark=0
  ·omega
  ·have h1:=(hall i hi h0).1
   unfold tK at h1
   by_cases e1:m.contexts[i].mark=1
   ·omega
   rw[if_neg e1] at h1
   by_cases e2:m.contexts[i].mark=2
   ·omega
   rw[if_neg e2] at h1
   by_cases e3:m.contexts[i].mark=3
   ·omega
   rw[if_neg e3] at h1
   by_cases e4:m.contexts[i].mark=4
   ·omega
   rw[if_neg e4] at h1
   by_cases e5:m.contexts[i].mark=5
   ·omega
   rw[if_neg e5] at h1
   cases h1
 ·obtain⟨g1,g2⟩:=hall i hi (by omega)
  unfold tK at g1
  rw[if_pos h1] at g1
  rcases hvs:m.contexts[i].values with _|⟨a,_|⟨b,_|⟨c,_|⟨d,l⟩⟩⟩⟩
  all_goals rw[hvs] at g1
  ·cases g1
  ·cases g1
  ·cases g1
  ·rw[afb] at g1
   simp only[Zq] at g1
   exact⟨a,b,c,rfl,aeg hp (kR g2 c (by rw[hvs];simp)) g1.2.2.2⟩
  ·cases g1
 ·obtain⟨g1,g2⟩:=hall i hi (by omega)
  unfold tK at g1
  rw[if_neg (by omega),if_pos h2] at g1
  rcases hvs:m.contexts[i].values with _|⟨a,_|⟨b,l⟩⟩
  all_goals rw[hvs] at g1
  ·cases g1
  ·rw[wc] at g1
   exact⟨a,rfl,aeg hp (kR g2 a (by rw[hvs];simp)) g1⟩
  ·cases g1
 ·obtain⟨g1,g2⟩:=hall i hi (by omega)
  unfold tK at g1
  rw[if_neg (by omega),if_neg (by omega),if_pos h3] at g1
  rcases hvs:m.contexts[i].values with _|⟨a,_|⟨b,l⟩⟩
  all_goals rw[hvs] at g1
  ·cases g1
  ·rw[wc] at g1
   simp only[Zq] at g1
   obtain⟨⟨h0,h1⟩,_⟩:=aeb g1.2
   exact⟨m.contexts[i].other.toNat,by omega,by omega⟩
  ·cases g1
 ·obtain⟨g1,g2⟩:=hall i hi (by omega)
  unfold tK at g1
  rw[if_neg (by omega),if_neg (by omega),if_neg (by omega),if_pos h4] at g1
  exact aa7 (of_decide_eq_true g1)
 ·obtain⟨g1,g2⟩:=hall i hi (by omega)
  unfold tK at g1
  rw[if_neg (by omega),if_neg (by omega),if_neg (by omega),if_neg (by omega),if_pos h5] at g1
  simp only[Zq] at g1
  have hr:-1<=m.contexts[i].other/\m.contexts[i].other<=(i:Int) - 1:=of_decide_eq_true g1.1
  refine⟨aa7 (of_decide_eq_true g1.2.1),⟨hr.1,by omega⟩,fun ht=>?_⟩
  have h6:=g1.2.2
  rw[ht] at h6
  exact(aeb (by simpa using h6)).2
theorem abi {m:ad} (hs:eY m) (wo:Int) (r:Bool) (v:ab) (hg:r=false->∀os,∃n x,goF m n os (.giv wo v)=some x) (hr:r=true->∃d,cxA m wo=some d/\d.mark=1):∀(k:Nat) (i:Int) (os:List ar),(i+1).toNat<=k->i<m.contexts.length->∃n x,goF m n os (.lea i wo v r)=some x:=by
 intro k
 induction k with
 | zero =>
   intro i os hk hi
   have hni:¬ (0<=i/\i≠wo):=by omega
   cases r with
   | false =>
     obtain⟨n,x,hx⟩:=hg rfl os
     exact⟨n+1,x,by simp only[goF];rw[if_neg hni];simpa using hx⟩
   | true =>
     obtain⟨d,hd,h1⟩:=hr rfl
     exact⟨1,_,by simp only[goF];rw[if_neg hni,hd];simp[h1];rfl⟩
 | succ k ih =>
   intro i os hk hi
   by_cases hni:0<=i/\i≠wo
   ·obtain⟨q,rfl⟩:∃q:Nat,i=q:=⟨i.toNat,by omega⟩
    have hq:q<m.contexts.length:=by omega
    have hsq:=hs q hq
    by_cases h2:m.contexts[q].mark=2
    ·exact⟨1,_,by simp only[goF];rw[if_pos hni,dF hq];simp only[h2];rfl⟩
    ·obtain⟨n,x,hx⟩:=ih m.contexts[q].sender (if m.contexts[q].mark=3 then acY os (hdN m.contexts[q]) else os) (by omega) (by omega)
     exact⟨n+1,x,by simp only[goF];rw[if_pos hni,dF hq];simp only[if_neg h2];exact hx⟩
   ·cases r with
    | false =>
      obtain⟨n,x,hx⟩:=hg rfl os
      exact⟨n+1,x,by simp only[goF];rw[if_neg hni];simpa using hx⟩
    | true =>
      obtain⟨d,hd,h1⟩:=hr rfl
      exact⟨1,_,by simp only[goF];rw[if_neg hni,hd];simp[h1];rfl⟩
theorem agR {m:ad} (hs:eY m) (hm:MkF m) (k:Nat):∀(t:Int) (v:ab) (os:List ar),(t+1).toNat<=k->t<m.contexts.length->∃n x,goF m n os (.giv t v)=some x:=by
 induction k with
 | zero =>
   intro t v os hk ht
   exact⟨1,_,by simp only[goF];rw[if_pos (by omega)]⟩
 | succ k ih =>
   intro t v os hk ht
   by_cases h0:t<0
   ·exact⟨1,_,by simp only[goF];rw[if_pos h0]⟩
   obtain⟨q,rfl⟩:∃q:Nat,t=q:=⟨t.toNat,by omega⟩
   have hq:q<m.contexts.length:=by omega
   have hsq:=hs q hq
   have hmk:=hm.mrk q hq
   have hc:=dF hq
   by_cases e0:m.contexts[q].mark=0
   ·exact⟨1,_,by simp only[goF];rw[if_neg h0,hc];simp only[e0];rfl⟩
   by_cases e1:m.contexts[q].mark=1
   ·obtain⟨n,x,hx⟩:=ih m.contexts[q].sender v os (by omega) (by omega)
    exact⟨n+1,x,by simp only[goF];rw[if_neg h0,hc];simp only[if_neg e0,if_pos e1];exact hx⟩
   by_cases e2:m.contexts[q].mark=2
   ·exact⟨1,_,by simp only[goF];rw[if_neg h0,hc];simp only[if_neg e0,if_neg e1,if_pos e2];rfl⟩
   by_cases e3:m.contexts[q].mark=3
   ·obtain⟨u,hu,hul⟩:=hm.hdo q hq e3
    have hl:u<m.contexts.length:=by omega
    have hsu:=hs u hl
    obtain⟨n,x,hx⟩:=abi hs m.contexts[u].sender false v (fun _ os=>ih _ v os (by omega) (by omega)) (fun h=>by cases h) (q+1) q os (by omega) (by omega)
    exact⟨n+1,x,by simp only[goF];rw[if_neg h0,hc];simp only[if_neg e0,if_neg e1,if_neg e2,if_pos e3,hu,dF hl];exact hx⟩
   by_cases e4:m.contexts[q].mark=4
   ·obtain⟨w,hw⟩:=hm.aft q hq e4
    obtain⟨n,x,hx⟩:=ih m.contexts[q].sender w os (by omega) (by omega)
    exact⟨n+1,x,by simp only[goF];rw[if_neg h0,hc];simp only[if_neg e0,if_neg e1,if_neg e2,if_neg e3,if_pos e4,hw];exact hx⟩
   have e5:m.contexts[q].mark=5:=by omega
   obtain⟨⟨w,hw⟩,⟨ho1,ho2⟩,hr⟩:=hm.unw q hq e5
   obtain⟨n,x,hx⟩:=abi hs m.contexts[q].other m.contexts[q].retry w (fun _ os=>ih _ w os (by omega) (by omega)) hr (q+1) m.contexts[q].sender os (by omega) (by omega)
   exact⟨n+1,x,by simp only[goF];rw[if_neg h0,hc];simp only[if_neg e0,if_neg e1,if_neg e2,if_neg e3,if_neg e4,if_pos e5,hw];exact hx⟩
theorem aeF {m:ad} (h:da m=true) (i wo:Int) (v:ab) (os:List ar) (hi:i<m.contexts.length) (ht:wo<m.contexts.length):∃x n,goF m n os (.lea i wo v false)=some x:=by
 have hs:=(ld h).1
 have hm:=abK h
 obtain⟨n,x,hx⟩:=abi hs wo false v (fun _ os=>agR hs hm (wo+1).toNat wo v os (Zg _) ht) (fun h=>by cases h) (i+1).toNat i os (Zg _) hi
 exact⟨x,n,hx⟩
theorem agN {m:ad} (n:Nat):∀(os:List ar) (t:Tk) (x:List ar×Ac),goF m n os t=some x->x.1.length=os.length/\((∀y∈os,ar.small 1048576 y)->∀y∈x.1,ar.small 1048576 y):=by
 induction n with
 | zero=>intro os t x h;cases h
 | succ n ih =>
   intro os t x h
   cases t with
   | giv t v =>
     simp only[goF] at h
     split at h
     ·cases h;exact⟨rfl,fun h=>h⟩
     ·split at h
      ·cases h
      ·split at h
       ·cases h;exact⟨rfl,fun h=>h⟩
       ·split at h
        ·exact ih _ _ _ h
        ·split at h
         ·cases h;exact⟨rfl,fun h=>h⟩
         ·split at h
          ·split at h
           ·exact ih _ _ _ h
           ·cases h
          ·split at h
           ·split at h
            ·exact ih _ _ _ h
            ·cases h
           ·split at h
            ·split at h
             ·exact ih _ _ _ h
             ·cases h
            ·cases h
   | lea i wo v r =>
     simp only[goF] at h
     split at h
     ·split at h
      ·cases h
      ·split at h
       ·cases h;exact⟨rfl,fun h=>h⟩
       ·obtain⟨h1,h2⟩:=ih _ _ _ h
        rename_i c _ _
        refine⟨h1.trans ?_,fun hs=>h2 ?_⟩
        ·split
         ·exact acV _ _
         ·rfl
        ·split
         ·exact zt hs _
         ·exact hs
     ·split at h
      ·split at h
       ·split at h
        ·cases h;exact⟨rfl,fun h=>h⟩
        ·cases h
       ·cases h
      ·exact ih _ _ _ h
def gf (m:ad) (v:ab) (k:Int):ao:=match m.blocks[v.number.toNat]? with
 | some b=>⟨0,b.code,0,k,b.outer,b.home,b.self,List.replicate (match cdA m b.code with|some x=>x.slots.toNat|none=>0) zV,[],[],0,false⟩
 | none=>⟨0,0,0,k,0,0,zV,[],[],[],0,false⟩
def stP (m:ad) (k:Int):List ag:=match m.processes[m.now.toNat]? with
 | some p=>m.processes.set m.now.toNat ⟨k,p.main⟩
 | none=>m.processes
def ft (mark sender other:Int) (r:Bool) (v:ab):ao:=⟨mark,0,0,sender,-1,-1,zV,[],[],[v],other,r⟩
def hdV (c:ao):ab:=match c.values with
 | v::_=>v
 | []=>zV
def thV (c:ao):ab:=match c.values with
 | [_,_,v]=>v
 | _=>zV
def acI (m:ad) (os:List ar):Ac->ad
 | .put t v=>match m.contexts[t]? with
   | some c=>fb m os (m.contexts.set t ⟨c.mark,c.code,c.pc,c.sender,c.outer,c.home,c.self,c.slots,c.stack++[v],c.values,c.other,c.retry⟩) (stP m t)
   | none=>m
 | .aft t v=>match m.contexts[t]? with
   | some c=>fb m os (m.contexts++[ft 4 c.sender 0 false v,gf m (hdV c) m.contexts.length]) (stP m ((m.contexts.length:Int)+1))
   | none=>m
 | .unw t wo v r=>match m.contexts[t]? with
   | some c=>fb m os (m.contexts++[ft 5 c.sender wo r v,gf m (hdV c) m.contexts.length]) (stP m ((m.contexts.length:Int)+1))
   | none=>m
 | .agn t=>match m.contexts[t]? with
   | some c=>fb m os (m.contexts++[gf m (thV c) t]) (stP m m.contexts.length)
   | none=>m
 | .fin v=>match m.processes[m.now.toNat]? with
   | some p=>if p.main=true then ⟨m.base,⟨m.store.classes,os,m.store.output,m.store.ticks,m.store.budget,m.store.made⟩,m.blocks,m.contexts,m.processes,m.ready,m.now,1,v,m.fault⟩
     else (match m.ready with
       | []=>⟨m.base,⟨m.store.classes,os,m.store.output,m.store.ticks,m.store.budget,m.store.made⟩,m.blocks,m.contexts,m.processes,[],m.now,4,m.value,m.fault⟩
       | k::l=>⟨m.base,⟨m.store.classes,os,m.store.output,m.store.ticks,m.store.budget,m.store.made⟩,m.blocks,m.contexts,m.processes,l,k,m.status,m.value,m.fault⟩)
   | none=>m
open Classical in
noncomputable def agt (m:ad) (wo:Int) (v:ab):List ar×Ac:=if h:∃x n,goF m n m.store.objects (.lea (atN m) wo v false)=some x then h.choose else (m.store.objects,.fin v)
noncomputable def afI (m:ad) (k:Int):Int:=match m.contexts[afX m k]? with|some c=>c.sender|none=>-1
noncomputable def cB (m:ad) (k:Int) (v:ab):Bool:=da m && (decide (m.status=0) && (inR k 0 (((bR m (atN m)).length:Int) - 1) && cD m.store m.blocks.length v))
noncomputable def bI (m:ad) (k:Int) (v:ab):ad:=if cB m k v=true then acI m (agt m (afI m k) v).1 (agt m (afI m k) v).2 else zIm
def adC (m:ad) (c:ao):ad:=fb m m.store.objects (m.contexts++[c]) m.processes
def yX (y:bJ) (bz:Nat):bJ:=(y.1,y.2.1,y.2.2.1,((y.2.2.2.1.1.1,bz),y.2.2.2.1.2),y.2.2.2.2)
theorem ab1 {α β:Type} (mk:α->β->List TV) {l:List α} {ps:List β} (h:ps.length=l.length) (x:α) (p:β):nRg mk l ps++[mk x p]=nRg mk (l++[x]) (ps++[p]):=by
 unfold nRg
 rw[Yv h.symm];rfl
theorem acA {α β:Type} (ob:α->β->aG) {l:List α} {ps:List β} (h:ps.length=l.length) (x:α) (p:β):nOg ob (l++[x]) (ps++[p])=nOg ob l ps++ob x p:=by
 unfold nOg
 rw[Yv h.symm,YN];simp
theorem aga (l:List ab) (n:Nat):∀y:Nat×Nat,True->(∀s b o,(s,b,o)∈[(y.1,y.2,aV.row 3 (l.map (ab.tw 0)))]->cE [(y.1,y.2,aV.row 3 (l.map (ab.tw 0)))] o)/\dY [(y.1,y.2,aV.row 3 (l.map (ab.tw 0)))] (.ms y.1 y.2 0 n):=fun y _ =>
 ⟨fun s b o h=>by
   simp only[ZM,Zp] at h
   obtain⟨_,_,rfl⟩:=h
   exact oE _ _,.ms _ _ _ _ _ _ Zi⟩
section
variable {w0:World} {N:Nat} {Q:Exit->Act->World->Prop} {env:Env} {objs:aG}
theorem gQ {x:Exit} {s b m0:Nat} {rows:List (List TV)} {cells:List TV} (k i m:Nat) (hm:0<m) (hk:rows[k]?=some cells) (hi:cells[i]?=some .nils) (h:∀ss,AQ w0 N Q x env ((s,b,.row m0 (rows.set k (cells.set i (.ms ss 0 0 0))))::(ss,0,.row m [])::objs)):AQ w0 N Q x env ((s,b,.row m0 rows)::objs):=⟨fun a w hs=>by
 obtain⟨ss,h1⟩:=hs.nilRk k i m hm hk hi
 exact(h ss).run a w h1⟩
end
theorem CtM.frame {P:Program} {G:World->Prop} {f:Nat} {args:List TV} {objs:aG} {Y:Type} {I:Y->Prop} {O:Y->aG} {r:Y->TV} (h:CtM P G f args objs I O r) (F:aG):CtM P G f args (objs++F) I (fun y=>O y++F) r:=fun w0 w R gs vs hG hw hg hs hr=>by
 simp only[Zk] at hw hg hr |-
 exact h w0 w (F++R) gs vs hG hw hg hs hr
section
variable {G:World->Prop}
theorem acH (_hst:ay G) (X:Nat×Nat×aV) (s b:Nat) (m:ad) (y:bJ) (l:List ag) (hll:l.length=m.processes.length) {n:Nat} (hn:m.now=n) {p:ag} (hp:l[n]?=some p) (k:Int):CtM Tryz.prog G 206 [.mp s b 0,.int .i64 k] [X,mB s b m y,mP y l] (fun _:Unit=>True) (fun _=>[X,mB s b m y,mP y (l.set n ⟨k,p.main⟩)]) (fun _=>.tup []):=by
 refine au Tryz.func206 rfl Tryz.ntmps206 rfl rfl rfl fun w0 R gs objsR hG hR=>?_
 obtain rfl:=hR.eq
 clear hR
 have hrow:(l.map (ag.tw 0))[n]?=some [.int .i64 p.at_,.bool p.main]:=by rw[Zj,hp];rfl
 have hset:(l.map (ag.tw 0)).set n [.int .i64 k,.bool p.main]=(l.set n ⟨k,p.main⟩).map (ag.tw 0):=by rw[Yz];rfl
 unfold mB mP imC
 rw[hn,<- hset]
 refine aR (objs':=(s,b,_)::(y.2.2.2.2.1.1,y.2.2.2.2.1.2,_)::X::R) (.perm (List.Perm.trans (List.Perm.cons _ (List.Perm.swap _ _ _)) (List.Perm.swap _ _ _))) ?_
 have hl:n<m.processes.length:=by rw[<- hll];exact(List.getElem?_eq_some_iff.1 hp).1
 have hrl:(l.map (ag.tw 0)).length=m.processes.length:=by rw[Zf];exact hll
 repeat' (first|refine W_ ?_|((with_reducible apply dh (id:=0) 11);kernel_rfl;kernel_rfl;kernel_rfl;(repeat (first|exact Cut.zero _|apply Cut.succ)))|with_reducible refine dB (by kernel_rfl) (by kernel_rfl) ?_|with_reducible refine eV ?_|with_reducible refine dz ?_|with_reducible refine dC rfl ?_|refine eS rfl rfl rfl rr_ ?_|refine dx rfl rfl rfl rr_ rfl rfl rfl ?_|refine cG rfl rfl rfl rr_ rfl rfl ?_|(refine iH rfl rfl rfl rr_ dd_ ?_)|(refine ir rfl rfl rfl rr_ dd_ ?_)|(refine bX rfl rfl rfl rr_ (fun hg=>?_) (fun hg=>?_))|(refine bF rfl rfl rfl rr_ (fun hg=>?_) (fun hg=>?_))|((with_reducible apply d_y);exact y_;rfl)|refine bD ?_)
 exact aZ x_ rfl () trivial rfl (.app _ R) (.perm (List.Perm.trans (List.Perm.swap _ _ _) (List.Perm.cons _ (List.Perm.swap _ _ _)))) rfl
theorem aaL (_hst:ay G) (s b:Nat) (m:ad) (y:bJ) (l:List ag) (hll:l.length=m.processes.length) {n:Nat} (hn:m.now=n) {p:ag} (hp:l[n]?=some p) (k:Int):CtM Tryz.prog G 206 [.mp s b 0,.int .i64 k] [mB s b m y,mP y l] (fun _:Unit=>True) (fun _=>[mB s b m y,mP y (l.set n ⟨k,p.main⟩)]) (fun _=>.tup []):=by
 refine au Tryz.func206 rfl Tryz.ntmps206 rfl rfl rfl fun w0 R gs objsR hG hR=>?_
 obtain rfl:=hR.eq
 clear hR
 have hrow:(l.map (ag.tw 0))[n]?=some [.int .i64 p.at_,.bool p.main]:=by rw[Zj,hp];rfl
 have hset:(l.map (ag.tw 0)).set n [.int .i64 k,.bool p.main]=(l.set n ⟨k,p.main⟩).map (ag.tw 0):=by rw[Yz];rfl
 unfold mB mP imC
 rw[hn,<- hset]
 refine aR (objs':=(s,b,_)::(y.2.2.2.2.1.1,y.2.2.2.2.1.2,_)::R) (cJ rfl) ?_
 have hl:n<m.processes.length:=by rw[<- hll];exact(List.getElem?_eq_some_iff.1 hp).1
 have hrl:(l.map (ag.tw 0)).length=m.processes.length:=by rw[Zf];exact hll
 repeat' (first|refine W_ ?_|((with_reducible apply dh (id:=0) 11);kernel_rfl;kernel_rfl;kernel_rfl;(repeat (first|exact Cut.zero _|apply Cut.succ)))|with_reducible refine dB (by kernel_rfl) (by kernel_rfl) ?_|with_reducible refine eV ?_|with_reducible refine dz ?_|with_reducible refine dC rfl ?_|refine eS rfl rfl rfl rr_ ?_|refine dx rfl rfl rfl rr_ rfl rfl rfl ?_|refine cG rfl rfl rfl rr_ rfl rfl ?_|(refine iH rfl rfl rfl rr_ dd_ ?_)|(refine ir rfl rfl rfl rr_ dd_ ?_)|(refine bX rfl rfl rfl rr_ (fun hg=>?_) (fun hg=>?_))|(refine bF rfl rfl rfl rr_ (fun hg=>?_) (fun hg=>?_))|((with_reducible apply d_y);exact y_;rfl)|refine bD ?_)
 exact aZ x_ rfl () trivial rfl (.app _ R) (.refl _) rfl
theorem aau (_hst:ay G) (n:Nat) (hn:n<=1000):CtM Tryz.prog G 207 [.int .i64 (n:Int),.nils] [] (fun _:Nat×Nat=>True) (fun y=>[(y.1,y.2,.row 3 ((List.replicate n zV).map (ab.tw 0)))]) (fun y=>.ms y.1 y.2 0 n):=by
 refine au Tryz.func207 rfl Tryz.ntmps207 rfl rfl rfl fun w0 R gs objsR hG hR=>?_
 obtain rfl:=hR.inv0
 clear hR
 have hz:(List.replicate n zV).map (ab.tw 0)=List.replicate n [.int .i64 0,.int .i64 0,.str ⟨#[]⟩]:=by rw[List.map_replicate];rfl
 rw[hz]
 repeat' (first|refine W_ ?_|(refine gK ?_;intro ss bb))
 apply ap (X:=Nat) [1,5,1000000] (fun k=>[(6,.int .i64 (k:Int))]) (fun _=>(ss,bb,.row 3 (List.replicate n [.int .i64 0,.int .i64 0,.str ⟨#[]⟩]))::R) (fun k=>k=0) (fun _=>0) 0 rfl
 exact kp_;exact nw_
 ·exact .refl _
 rintro k rfl
 try dsimp only
 repeat' refine W_ ?_
 exact aw x_ rfl (ss,bb) trivial rfl (.cons _ _ _ _ (.nil R)) pk_ (.tmp _ _ rfl) rfl
theorem abe (_hst:ay G) (s b:Nat) (m:ad) (y:bJ) (rows:List (List TV)) (hrl:rows.length=m.contexts.length) (hcl:m.contexts.length<=1048600) (c:ao) (sv bv:Nat):CtM Tryz.prog G 205 [.mp s b 0,.agg [.int .i64 c.mark,.int .i64 c.code,.int .i64 c.pc,.int .i64 c.sender,.int .i64 c.outer,.int .i64 c.home,.int .i64 c.self.kind,.int .i64 c.self.number,.str c.self.text,.nils,.nils,.ms sv bv 0 1,.int .i64 c.other,.bool c.retry]] [mX y rows,mB s b m y] (fun _:Nat=>True) (fun bz=>[mX (yX y bz) (rows++[[.int .i64 c.mark,.int .i64 c.code,.int .i64 c.pc,.int .i64 c.sender,.int .i64 c.outer,.int .i64 c.home,.int .i64 c.self.kind,.int .i64 c.self.number,.str c.self.text,.nils,.nils,.ms sv bv 0 1,.int .i64 c.other,.bool c.retry]]),mB s b (adC m c) (yX y bz)]) (fun _=>.int .i64 (m.contexts.length:Int)):=by
 refine au Tryz.func205 rfl Tryz.ntmps205 rfl rfl rfl fun w0 R gs objsR hG hR=>?_
 obtain rfl:=hR.eq
 clear hR
 unfold mX mB adC yX imC
 refine aR (objs':=(y.2.2.2.1.1.1,y.2.2.2.1.1.2,.row 14 rows)::(s,b,_)::R) (cJ rfl) ?_
 repeat' (first|refine W_ ?_|refine aJ ?_|((with_reducible apply fm (id:=1) 10);kernel_rfl;kernel_rfl;kernel_rfl;rfl;(repeat (first|exact Cut.zero _|apply Cut.succ)))|((with_reducible apply m_q);exact ym_;rfl;exact ez)|((with_reducible apply cA);rfl;(intro p;try dsimp only);(repeat (first|exact TB.nil _|((with_reducible apply TB.cons);rfl;rfl;(first|exact .nil _|exact .put _ _ _ _ _ (.nil _)|exact .skip _ _ _ _ _ (.put _ _ _ _ _ (.nil _))|exact .skip _ _ _ _ _ (.skip _ _ _ _ _ (.put _ _ _ _ _ (.nil _)))|(repeat (first|exact .nil _|apply aW.put|apply aW.skip)));kernel_rfl)));rfl;kernel_rfl;kernel_rfl;exact ez)|((with_reducible apply jh);(intro p;rfl);rfl;kernel_rfl;kernel_rfl;rfl;kernel_rfl;rfl;(intro p;rfl);rfl;(intro p;rfl);exact ez)|((with_reducible apply kj);(intro p;rfl);(intro p;rfl);rfl;kernel_rfl;(intro p;rfl);exact hrl;(intro p;show List.length _=1;rfl);omega;exact fun p=>rfl;exact⟨by decide,by decide⟩;exact im;rfl;(focus (simp;done)))|(with_reducible refine DM.nil _ _ _ ?_))
 intro p hp
 clear hp
 refine bV (objs':=(y.2.2.2.1.1.1,(p 7).b,.row 14 (rows++[[.int .i64 c.mark,.int .i64 c.code,.int .i64 c.pc,.int .i64 c.sender,.int .i64 c.outer,.int .i64 c.home,.int .i64 c.self.kind,.int .i64 c.self.number,.str c.self.text,.nils,.nils,.ms sv bv 0 1,.int .i64 c.other,.bool c.retry]]))::(s,b,_)::R) (by rw[show et _=[_] from rfl];(try simp only[ZC,ZK,Zt,ZF,Zx]);(try rfl)) ?_
 dsimp only [Nat.reduceAdd]
 generalize Yu.b (p 7)=bz
 repeat' (first|refine W_ ?_|refine ac ?_)
 refine aw x_ rfl bz trivial rfl (.app _ R) ?_ (.tmp _ _ rfl) ?_
 ·simp only[fb,Zh,Zy,YE];exact .refl _
 ·simp
theorem ab2 (_hst:ay G) (s b:Nat) (m:ad) (y:bJ) (rows:List (List TV)) (hrl:rows.length=m.contexts.length) (hcl:m.contexts.length<=1048600) (c:ao) (sv bv n:Nat):CtM Tryz.prog G 205 [.mp s b 0,.agg [.int .i64 c.mark,.int .i64 c.code,.int .i64 c.pc,.int .i64 c.sender,.int .i64 c.outer,.int .i64 c.home,.int .i64 c.self.kind,.int .i64 c.self.number,.str c.self.text,.ms sv bv 0 n,.nils,.nils,.int .i64 c.other,.bool c.retry]] [mX y rows,mB s b m y] (fun _:Nat=>True) (fun bz=>[mX (yX y bz) (rows++[[.int .i64 c.mark,.int .i64 c.code,.int .i64 c.pc,.int .i64 c.sender,.int .i64 c.outer,.int .i64 c.home,.int .i64 c.self.kind,.int .i64 c.self.number,.str c.self.text,.ms sv bv 0 n,.nils,.nils,.int .i64 c.other,.bool c.retry]]),mB s b (adC m c) (yX y bz)]) (fun _=>.int .i64 (m.contexts.length:Int)):=by
 refine au Tryz.func205 rfl Tryz.ntmps205 rfl rfl rfl fun w0 R gs objsR hG hR=>?_
 obtain rfl:=hR.eq
 clear hR
 unfold mX mB adC yX imC
 refine aR (objs':=(y.2.2.2.1.1.1,y.2.2.2.1.1.2,.row 14 rows)::(s,b,_)::R) (cJ rfl) ?_
 repeat' (first|refine W_ ?_|refine aJ ?_|((with_reducible apply fm (id:=1) 10);kernel_rfl;kernel_rfl;kernel_rfl;rfl;(repeat (first|exact Cut.zero _|apply Cut.succ)))|((with_reducible apply m_q);exact ym_;rfl;exact ez)|((with_reducible apply cA);rfl;(intro p;try dsimp only);(repeat (first|exact TB.nil _|((with_reducible apply TB.cons);rfl;rfl;(first|exact .nil _|exact .put _ _ _ _ _ (.nil _)|exact .skip _ _ _ _ _ (.put _ _ _ _ _ (.nil _))|exact .skip _ _ _ _ _ (.skip _ _ _ _ _ (.put _ _ _ _ _ (.nil _)))|(repeat (first|exact .nil _|apply aW.put|apply aW.skip)));kernel_rfl)));rfl;kernel_rfl;kernel_rfl;exact ez)|((with_reducible apply jh);(intro p;rfl);rfl;kernel_rfl;kernel_rfl;rfl;kernel_rfl;rfl;(intro p;rfl);rfl;(intro p;rfl);exact ez)|((with_reducible apply kj);(intro p;rfl);(intro p;rfl);rfl;kernel_rfl;(intro p;rfl);exact hrl;(intro p;show List.length _=1;rfl);omega;exact fun p=>rfl;exact⟨by decide,by decide⟩;exact im;rfl;(focus (simp;done)))|(with_reducible refine DM.nil _ _ _ ?_))
 intro p hp
 clear hp
 refine bV (objs':=(y.2.2.2.1.1.1,(p 7).b,.row 14 (rows++[[.int .i64 c.mark,.int .i64 c.code,.int .i64 c.pc,.int .i64 c.sender,.int .i64 c.outer,.int .i64 c.home,.int .i64 c.self.kind,.int .i64 c.self.number,.str c.self.text,.ms sv bv 0 n,.nils,.nils,.int .i64 c.other,.bool c.retry]]))::(s,b,_)::R) (by rw[show et _=[_] from rfl];(try simp only[ZC,ZK,Zt,ZF,Zx]);(try rfl)) ?_
 dsimp only [Nat.reduceAdd]
 generalize Yu.b (p 7)=bz
 repeat' (first|refine W_ ?_|refine ac ?_)
 refine aw x_ rfl bz trivial rfl (.app _ R) ?_ (.tmp _ _ rfl) ?_
 ·simp only[fb,Zh,Zy,YE];exact .refl _
 ·simp
end
theorem gS {α:Type} (l:List α) (a:α):(l++[a])[l.length]?=some a:=by simp
theorem gV {α:Type} (l:List α) (a b:α):(l++[a]).set l.length b=l++[b]:=by simp
theorem aee (k sn oth:Int) (r:Bool) (v:ab) (p:Pl×Pl×Pl):aM (ft k sn oth r v) p=[.int .i64 k,.int .i64 0,.int .i64 0,.int .i64 sn,.int .i64 (-1),.int .i64 (-1),.int .i64 0,.int .i64 0,.str ⟨#[]⟩,.ms p.1.1 p.1.2 0 0,.ms p.2.1.1 p.2.1.2 0 0,.ms p.2.2.1 p.2.2.2 0 1,.int .i64 oth,.bool r]:=rfl
structure zk (m:ad) (v:ab) (q cq:Nat) (b:aq) (x:aB) (n:Nat):Prop where
 num:v.number=q
 blk:m.blocks[q]?=some b
 code:b.code=cq
 cod:m.base.codes[cq]?=some x
 slots:x.slots=n
 le:n<=30
theorem kv.at_ {m:ad} {v:ab} (h:kv m v):∃q cq b x n,zk m v q cq b x n:=by
 obtain⟨_,q,b,cq,x,h1,h2,h3,h4,h5,h6⟩:=h
 exact⟨q,cq,b,x,x.slots.toNat,h1,h2,h3,h4,by omega,by omega⟩
theorem zk.eq {m:ad} {v:ab} {q cq:Nat} {b:aq} {x:aB} {n:Nat} (h:zk m v q cq b x n) (k:Int):gf m v k=⟨0,b.code,0,k,b.outer,b.home,b.self,List.replicate n zV,[],[],0,false⟩:=by
 unfold gf
 rw[h.num,ZB,h.blk]
 dsimp only
 unfold cdA
 rw[h.code,if_pos (by omega),ZB,h.cod]
 dsimp only
 rw[h.slots,ZB]
theorem aiu (z a b c:Nat×Nat×aV) (R:aG):bS (a::b::c::z::R) (z::a::b::c::R):=.perm (by
 have h:=bA (n:=5) [[z],[a],[b],[c],R] [1,2,3,0,4] rfl (by decide)
 simpa using h)
theorem afM (x s2 s1 mb mp sl b8 bl cd:Nat×Nat×aV) (R:aG):bS ([x,mb,mp,sl,s1,s2,bl,cd]++R) (x::s2::s1::mb::mp::sl::b8::bl::cd::R):=.trans (.drop (x:=b8) (.refl _)) (.perm (by
 have h:=bA (n:=10) [[x],[s2],[s1],[mb],[mp],[sl],[b8],[bl],[cd],R] [6,0,3,4,5,2,1,7,8,9] rfl (by decide)
 simpa using h))
section
variable {G:World->Prop}
theorem uH (hst:ay G) (s b:Nat) (m:ad) (y:bJ) (rows:List (List TV)) (hrl:rows.length=m.contexts.length) (hcl:m.contexts.length<=1048600) (k sn:Int) (v:ab) (sv bv:Nat):CtM Tryz.prog G 129 [.mp s b 0,.int .i64 k,.int .i64 sn,.ms sv bv 0 1] [mX y rows,mB s b m y] (fun _:Nat×Nat×Nat=>True) (fun u=>[mX (yX y u.1) (rows++[aM (ft k sn 0 false v) ((u.2.1,0),(u.2.2,0),(sv,bv))]),mB s b (adC m (ft k sn 0 false v)) (yX y u.1),(u.2.1,0,.row 3 []),(u.2.2,0,.row 3 [])]) (fun _=>.int .i64 (m.contexts.length:Int)):=by
 refine au Tryz.func129 rfl Tryz.ntmps129 rfl rfl rfl fun w0 R gs objsR hG hR=>?_
 obtain rfl:=hR.eq
 clear hR
 have hp:=abe hst s b m y rows hrl hcl (ft k sn 0 false v) sv bv
 have hmk:=aee k sn 0 false v
 generalize hc:ft k sn 0 false v=c at hp hmk |-
 have e0:c.mark=k:=by rw[<- hc];rfl
 have e1:c.code=0:=by rw[<- hc];rfl
 have e2:c.pc=0:=by rw[<- hc];rfl
 have e3:c.sender=sn:=by rw[<- hc];rfl
 have e4:c.outer=-1:=by rw[<- hc];rfl
 have e5:c.home=-1:=by rw[<- hc];rfl
 have e6:c.self=⟨0,0,⟨#[]⟩⟩:=by rw[<- hc];rfl
 have e7:c.other=0:=by rw[<- hc];rfl
 have e8:c.retry=false:=by rw[<- hc];rfl
 rw[e0,e1,e2,e3,e4,e5,e6,e7,e8] at hp
 refine aR (objs':=_::_::R) (cJ rfl) ?_
 repeat' (first|refine W_ ?_|refine er ?_|((with_reducible apply aA);rfl;kernel_rfl;(repeat (first|exact az.nil|((with_reducible apply az.cons);rfl)));exact hG;exact hp;exact .cons _ _ _ _ (.cons _ _ _ _ (.nil _));intro bz hbz;refine fM ?_))
 unfold mX
 refine gQ rows.length 9 3 (by decide) (gS _ _) rfl fun s1=>?_
 rw[gV]
 refine gQ rows.length 10 3 (by decide) (gS _ _) rfl fun s2=>?_
 rw[gV]
 dsimp only [List.set]
 refine aw x_ rfl (bz,s1,s2) trivial rfl (.app _ R) ?_ (.tmp _ _ rfl) rfl
 dsimp only
 rw[hmk]
 exact .perm (by
   have h:=bA (n:=5) [[((yX y bz).2.2.2.1.1.1,(yX y bz).2.2.2.1.1.2,aV.row 14 (rows++[[.int .i64 k,.int .i64 0,.int .i64 0,.int .i64 sn,.int .i64 (-1),.int .i64 (-1),.int .i64 0,.int .i64 0,.str ⟨#[]⟩,.ms s1 0 0 0,.ms s2 0 0 0,.ms sv bv 0 1,.int .i64 0,.bool false]]))],[(s2,0,aV.row 3 [])],[(s1,0,aV.row 3 [])],[mB s b (adC m c) (yX y bz)],R] [0,3,2,1,4] rfl (by decide)
   simpa using h)
theorem pY (hst:ay G) (s b:Nat) (m:ad) (y:bJ) (rows:List (List TV)) (hrl:rows.length=m.contexts.length) (hcl:m.contexts.length<=1048600) (_hzb:m.blocks.length<=1048576) (_hzc:m.base.codes.length<=1048576) (hyc:y.1.2.1.2.length=m.base.codes.length) (l:List ag) (hll:l.length=m.processes.length) {np:Nat} (hnp:m.now=np) {pr:ag} (hpr:l[np]?=some pr) (v:ab) {q cq n:Nat} {bk:aq} {x:aB} (hb:zk m v q cq bk x n) (k:Int):CtM Tryz.prog G 130 [.mp s b 0,.agg [.int .i64 v.kind,.int .i64 v.number,.str v.text],.nils,.int .i64 k] [mX y rows,mB s b m y,mP y l,(y.2.2.1.1,y.2.2.1.2,.row 6 (m.blocks.map (aq.tw 0))),(y.1.2.1.1.1,y.1.2.1.1.2,.row 4 (nR cT m.base.codes y.1.2.1.2))] (fun _:Nat×(Nat×Nat)×Nat×Nat=>True) (fun u=>[mX (yX y u.1) (rows++[aM (gf m v k) (u.2.1,(u.2.2.1,0),(u.2.2.2,0))]),mB s b (adC m (gf m v k)) (yX y u.1),mP y (l.set np ⟨(m.contexts.length:Int),pr.main⟩),(u.2.1.1,u.2.1.2,.row 3 ((List.replicate n zV).map (ab.tw 0))),(u.2.2.1,0,.row 3 []),(u.2.2.2,0,.row 3 []),(y.2.2.1.1,y.2.2.1.2,.row 6 (m.blocks.map (aq.tw 0))),(y.1.2.1.1.1,y.1.2.1.1.2,.row 4 (nR cT m.base.codes y.1.2.1.2))]) (fun _=>.tup []):=by
 refine au Tryz.func130 rfl Tryz.ntmps130 rfl rfl rfl fun w0 R gs objsR hG hR=>?_
 obtain rfl:=hR.eq
 clear hR
 have hbc:=hb.eq k
 have hsl:=aau hst n (by have:=hb.le;omega)
 have hn1:=aga (List.replicate n zV) n
 have hql:=(List.getElem?_eq_some_iff.1 hb.blk).1
 have hcl2:=(List.getElem?_eq_some_iff.1 hb.cod).1
 have hrb:(m.blocks.map (aq.tw 0))[q]?=some [.int .i64 bk.code,.int .i64 bk.outer,.int .i64 bk.home,.int .i64 bk.self.kind,.int .i64 bk.self.number,.str bk.self.text]:=by rw[Zj,hb.blk];rfl
 obtain⟨pc,hpc⟩:∃pc,y.1.2.1.2[cq]?=some pc:=⟨_,Za (by rw[hyc];exact hcl2)⟩
 have hrc:(nR cT m.base.codes y.1.2.1.2)[cq]?=some [.bool x.block,.int .i64 x.params,.int .i64 x.slots,.ms pc.1 pc.2 0 x.instrs.length]:=yI cT hb.cod hpc
 have hcdl:(nR cT m.base.codes y.1.2.1.2).length=m.base.codes.length:=ni _ hyc
 have hbl:(m.blocks.map (aq.tw 0)).length=m.blocks.length:=Zf _
 rw[hb.slots] at hrc
 rw[hb.code] at hrb
 rw[hb.num]
 have hmk:∀p,aM (gf m v k) p=[.int .i64 0,.int .i64 bk.code,.int .i64 0,.int .i64 k,.int .i64 bk.outer,.int .i64 bk.home,.int .i64 bk.self.kind,.int .i64 bk.self.number,.str bk.self.text,.ms p.1.1 p.1.2 0 n,.ms p.2.1.1 p.2.1.2 0 0,.ms p.2.2.1 p.2.2.2 0 0,.int .i64 0,.bool false]:=fun p=>by rw[hbc];simp[aM]
 have hp:=fun sl bl=>ab2 hst s b m y rows hrl hcl (gf m v k) sl bl n
 have ha:=fun bz=>aaL hst s b (adC m (gf m v k)) (yX y bz) l hll hnp hpr (m.contexts.length:Int)
 generalize hc:gf m v k=c at hp ha hmk hbc |-
 rw[hbc] at hp
 dsimp only at hp
 rw[hb.code] at hp hmk
 unfold mX mB mP imC
 refine aR (objs':=(y.2.2.2.1.1.1,y.2.2.2.1.1.2,_)::(s,b,_)::(y.2.2.2.2.1.1,y.2.2.2.2.1.2,_)::(y.2.2.1.1,y.2.2.1.2,_)::(y.1.2.1.1.1,y.1.2.1.1.2,_)::R) (cJ rfl) ?_
 repeat' (first|refine W_ ?_|refine aJ ?_|((with_reducible apply dX (id:=1) 9);kernel_rfl;kernel_rfl;kernel_rfl;rfl;(repeat (first|exact Cut.zero _|apply Cut.succ)))|((with_reducible apply m_q);exact ym_;rfl;exact ez)|((with_reducible apply cA);rfl;(intro p;try dsimp only);(repeat (first|exact TB.nil _|((with_reducible apply TB.cons);rfl;rfl;(first|exact .nil _|exact .put _ _ _ _ _ (.nil _)|exact .skip _ _ _ _ _ (.put _ _ _ _ _ (.nil _))|exact .skip _ _ _ _ _ (.skip _ _ _ _ _ (.put _ _ _ _ _ (.nil _)))|(repeat (first|exact .nil _|apply aW.put|apply aW.skip)));kernel_rfl)));rfl;kernel_rfl;kernel_rfl;exact ez)|((with_reducible apply gm);rfl;rfl;kernel_rfl)|(with_reducible refine DM.nil _ _ _ ?_))
 intro p hp0
 clear hp0
 refine bV (objs':=((p 8).a,(p 8).b,.box [.int .i64 0,.int .i64 0,.int .i64 0,.int .i64 0,.int .i64 0,.str ⟨#[]⟩])::(y.2.2.2.1.1.1,y.2.2.2.1.1.2,_)::_) (by rw[show et _=[_] from rfl];(try simp only[ZC,ZK,Zt,ZF,Zx]);(try rfl)) ?_
 dsimp only [Nat.reduceAdd]
 generalize Yu.a (p 8)=s8
 generalize Yu.b (p 8)=b8
 repeat' (first|refine H_ 2 ?_|refine ac ?_)
 refine aR (aiu _ _ _ _ _) ?_
 have hp3:=fun ps:Nat×Nat=>(hp ps.1 ps.2).frame [mP y l]
 have ha3:=fun(bz:Nat) (ps:Nat×Nat)=>acH hst (mX (yX y bz) (rows++[[.int .i64 0,.int .i64 (cq:Int),.int .i64 0,.int .i64 k,.int .i64 bk.outer,.int .i64 bk.home,.int .i64 bk.self.kind,.int .i64 bk.self.number,.str bk.self.text,.ms ps.1 ps.2 0 n,.nils,.nils,.int .i64 0,.bool false]])) s b (adC m ⟨0,(cq:Int),0,k,bk.outer,bk.home,bk.self,List.replicate n zV,[],[],0,false⟩) (yX y bz) l hll hnp hpr (m.contexts.length:Int)
 unfold mX mB mP imC at hp3 ha3
 have hp4:=fun p:Pt=>hp3 (Enc.dec (p 22))
 have ha4:=fun p:Pt=>ha3 (Enc.dec (p 24)) (Enc.dec (p 22))
 repeat' (first|refine W_ ?_|((with_reducible apply vG (id:=2) 26);kernel_rfl;kernel_rfl;kernel_rfl;rfl;(repeat (first|exact Cut.zero _|apply Cut.succ)))|((with_reducible apply aip (C:=fun _=>[_,_,_]) 1000000);(intro p;rfl);(focus (intro p R hR;(with_reducible apply i7);rfl;(exact Zw _ (Zd _ Zi))));rfl;(intro h;exact absurd h (by decide));(intro p p' h;rfl);(intro p p' h;rfl);rfl;(focus (simp;done)))|((with_reducible apply aip (C:=fun _=>[_,_,_]) 12);(intro p;rfl);(focus (intro p R hR;(with_reducible apply oX);rfl;kernel_rfl;rfl;(exact Zw _ (Zd _ Zi));rfl));rfl;(exact fun _=>ah_);(intro p p' h;rfl);(intro p p' h;rfl);rfl;(focus (simp;done)))|((with_reducible apply m_q);exact ym_;rfl;exact ez)|((with_reducible apply cA);rfl;(intro p;try dsimp only);(repeat (first|exact TB.nil _|((with_reducible apply TB.cons);rfl;rfl;(first|exact .nil _|exact .put _ _ _ _ _ (.nil _)|exact .skip _ _ _ _ _ (.put _ _ _ _ _ (.nil _))|exact .skip _ _ _ _ _ (.skip _ _ _ _ _ (.put _ _ _ _ _ (.nil _)))|(repeat (first|exact .nil _|apply aW.put|apply aW.skip)));kernel_rfl)));rfl;kernel_rfl;kernel_rfl;exact ez)|((with_reducible apply gy hG hst hsl);rfl;kernel_rfl;(focus (intro p;(repeat (first|exact bU.nil|((with_reducible apply bU.cons);rfl;exact .same _)));done));exact hn1)|((with_reducible apply rB (i:=15) hG hp4);rfl;kernel_rfl;(intro p;(repeat (first|exact az.nil|((with_reducible apply az.cons);rfl))));(intro p;rfl);exact fun _=>ah_;exact im;exact im;rfl;(focus (simp;done)))|((with_reducible apply rB (i:=24) hG ha4);rfl;kernel_rfl;(intro p;(repeat (first|exact az.nil|((with_reducible apply az.cons);rfl))));(intro p;rfl);exact fun _=>ah_;exact im;exact im;rfl;(focus (simp;done)))|(with_reducible refine DM.nil _ _ _ ?_))
 intro p hp0
 clear hp0
 refine bV (objs':=((yX y (Enc.dec (p 24))).2.2.2.1.1.1,(yX y (Enc.dec (p 24))).2.2.2.1.1.2,.row 14 (rows++[[.int .i64 0,.int .i64 (cq:Int),.int .i64 0,.int .i64 k,.int .i64 bk.outer,.int .i64 bk.home,.int .i64 bk.self.kind,.int .i64 bk.self.number,.str bk.self.text,.ms (Enc.dec (p 22):Nat×Nat).1 (Enc.dec (p 22):Nat×Nat).2 0 n,.nils,.nils,.int .i64 0,.bool false]]))::(s,b,.box (imC (adC m ⟨0,(cq:Int),0,k,bk.outer,bk.home,bk.self,List.replicate n zV,[],[],0,false⟩) (yX y (Enc.dec (p 24)))))::mP (yX y (Enc.dec (p 24))) (l.set np ⟨(m.contexts.length:Int),pr.main⟩)::((Enc.dec (p 22):Nat×Nat).1,(Enc.dec (p 22):Nat×Nat).2,.row 3 ((List.replicate n zV).map (ab.tw 0)))::(s8,b8,_)::_) (by rw[show et _=[_,_] from rfl];(try simp only[ZC,ZK,Zt,ZF,Zx]);(try rfl)) ?_
 dsimp only [Nat.reduceAdd]
 generalize (Enc.dec (p 24):Nat)=bz
 generalize (Enc.dec (p 22):Nat×Nat)=ps
 repeat' refine W_ ?_
 refine gQ rows.length 10 3 (by decide) (gS _ _) rfl fun s1=>?_
 rw[gV]
 refine gQ rows.length 11 3 (by decide) (gS _ _) rfl fun s2=>?_
 rw[gV]
 dsimp only [List.set]
 refine aZ x_ rfl (bz,ps,s1,s2) trivial rfl (.app _ R) ?_ rfl
 dsimp only
 rw[hmk,hbc,hb.code]
 exact afM _ _ _ _ _ _ _ _ _ R
end
def tB (m:ad) (st:Int) (v:ab):ad:=⟨m.base,m.store,m.blocks,m.contexts,m.processes,m.ready,m.now,st,v,m.fault⟩
def nxI (m:ad) (k:Int) (l:List Int):ad:=⟨m.base,m.store,m.blocks,m.contexts,m.processes,l,k,m.status,m.value,m.fault⟩
def yR (y:bJ) (r:Nat×Nat):bJ:=(y.1,y.2.1,y.2.2.1,y.2.2.2.1,y.2.2.2.2.1,r)
section
variable {G:World->Prop}
theorem adJ (hst:ay G) (y:bJ) (rows:List (List TV)) (_hrl:rows.length<=1048600) (k:Nat) (c:ao) (p:Pl×Pl×Pl) (hk:rows[k]?=some (aM c p)) (hcl:c.stack.length<=1048576) (v:ab):CtM Tryz.prog G 208 [.me y.2.2.2.1.1.1 y.2.2.2.1.1.2 14 k 0,.agg [.int .i64 v.kind,.int .i64 v.number,.str v.text]] [mX y rows,(p.2.1.1,p.2.1.2,.row 3 (c.stack.map (ab.tw 0)))] (fun _:Nat×Nat=>True) (fun u=>[mX y (rows.set k (aM ⟨c.mark,c.code,c.pc,c.sender,c.outer,c.home,c.self,c.slots,c.stack++[v],c.values,c.other,c.retry⟩ (p.1,u,p.2.2))),(u.1,u.2,.row 3 ((c.stack++[v]).map (ab.tw 0))),(p.2.1.1,p.2.1.2,.row 3 (c.stack.map (ab.tw 0)))]) (fun _=>.tup []):=by
 refine au Tryz.func208 rfl Tryz.ntmps208 rfl rfl rfl fun w0 R gs objsR hG hR=>?_
 obtain rfl:=hR.eq
 clear hR
 have hva:=f7 (G:=G) 0 c.stack hcl
 have hnw:=aga c.stack c.stack.length
 have hls:(c.stack.map (ab.tw 0)).length=c.stack.length:=Zf _
 have hsn:c.stack.map (ab.tw 0)++[[.int .i64 v.kind,.int .i64 v.number,.str v.text]]=(c.stack++[v]).map (ab.tw 0):=by rw[YG];rfl
 have hmk:∀u:Nat×Nat,aM ⟨c.mark,c.code,c.pc,c.sender,c.outer,c.home,c.self,c.slots,c.stack++[v],c.values,c.other,c.retry⟩ (p.1,u,p.2.2)=[.int .i64 c.mark,.int .i64 c.code,.int .i64 c.pc,.int .i64 c.sender,.int .i64 c.outer,.int .i64 c.home,.int .i64 c.self.kind,.int .i64 c.self.number,.str c.self.text,.ms p.1.1 p.1.2 0 c.slots.length,.ms u.1 u.2 0 (c.stack.length+1),.ms p.2.2.1 p.2.2.2 0 c.values.length,.int .i64 c.other,.bool c.retry]:=fun u=>by simp[aM]
 rw[show aM c p=[.int .i64 c.mark,.int .i64 c.code,.int .i64 c.pc,.int .i64 c.sender,.int .i64 c.outer,.int .i64 c.home,.int .i64 c.self.kind,.int .i64 c.self.number,.str c.self.text,.ms p.1.1 p.1.2 0 c.slots.length,.ms p.2.1.1 p.2.1.2 0 c.stack.length,.ms p.2.2.1 p.2.2.2 0 c.values.length,.int .i64 c.other,.bool c.retry] from rfl] at hk
 unfold mX
 refine aR (objs':=(y.2.2.2.1.1.1,y.2.2.2.1.1.2,_)::(p.2.1.1,p.2.1.2,_)::R) (cJ rfl) ?_
 repeat' (first|refine W_ ?_|refine aJ ?_|((with_reducible apply dX (id:=1) 11);kernel_rfl;kernel_rfl;kernel_rfl;rfl;(repeat (first|exact Cut.zero _|apply Cut.succ)))|((with_reducible apply m_q);exact ym_;rfl;exact ez)|((with_reducible apply cA);rfl;(intro p;try dsimp only);(repeat (first|exact TB.nil _|((with_reducible apply TB.cons);rfl;rfl;(first|exact .nil _|exact .put _ _ _ _ _ (.nil _)|exact .skip _ _ _ _ _ (.put _ _ _ _ _ (.nil _))|exact .skip _ _ _ _ _ (.skip _ _ _ _ _ (.put _ _ _ _ _ (.nil _)))|(repeat (first|exact .nil _|apply aW.put|apply aW.skip)));kernel_rfl)));rfl;kernel_rfl;kernel_rfl;exact ez)|((with_reducible apply jh);(intro p;rfl);rfl;kernel_rfl;kernel_rfl;rfl;kernel_rfl;rfl;(intro p;rfl);rfl;(intro p;rfl);exact ez)|((with_reducible apply gy hG hst hva);rfl;kernel_rfl;(focus (intro p;(repeat (first|exact bU.nil|((with_reducible apply bU.cons);rfl;(first|with_reducible exact cy.same _|((with_reducible apply cy.msAll);(repeat (first|with_reducible exact mh|with_reducible refine mt ?_));(first|with_reducible assumption|exact aI _|exact aj _|exact aH _|exact Zf _|assumption|rfl))|((with_reducible apply dS);(repeat (first|with_reducible exact mh|with_reducible refine mt ?_));(first|with_reducible assumption|exact aI _|exact aj _|exact aH _|exact Zf _|assumption|rfl))|((with_reducible apply cy.cut);exact cy.cp0 _ _;rfl)))));done));exact hnw)|((with_reducible apply agE 5);(intro p;rfl);(intro p;rfl);(intro p;rfl);rfl;kernel_rfl;exact hls;(intro p;show List.length _=1;rfl);omega;exact fun _=>hsn;exact fun _=>ah_;exact im;exact im;rfl;(focus (simp;done)))|(with_reducible refine DM.nil _ _ _ ?_))
 intro q hq0
 clear hq0
 refine bV (objs':=((Enc.dec (q 5):Nat×Nat).1,(q 8).b,.row 3 ((c.stack++[v]).map (ab.tw 0)))::(y.2.2.2.1.1.1,y.2.2.2.1.1.2,_)::(p.2.1.1,p.2.1.2,_)::R) (by rw[show et _=[_] from rfl];(try simp only[ZC,ZK,Zt,ZF,Zx]);(try rfl)) ?_
 dsimp only [Nat.reduceAdd]
 generalize (Enc.dec (q 5):Nat×Nat).1=us
 generalize Yu.b (q 8)=ub
 repeat' (first|refine W_ ?_|refine bD ?_)
 refine aZ x_ rfl (us,ub) trivial rfl (.app _ R) ?_ rfl
 dsimp only
 rw[hmk]
 exact .perm (List.Perm.swap _ _ _)
theorem wy (_hst:ay G) (s b:Nat) (m:ad) (y:bJ) (h0:m.ready=[]):CtM Tryz.prog G 261 [.mp s b 0] [mB s b m y] (fun _:Unit=>True) (fun _=>[mB s b (tB m 4 m.value) y]) (fun _=>.tup []):=by
 refine au Tryz.func261 rfl Tryz.ntmps261 rfl rfl rfl fun w0 R gs objsR hG hR=>?_
 obtain rfl:=hR.eq
 clear hR
 unfold mB imC
 rw[show m.ready.length=0 by rw[h0];rfl]
 refine aR (objs':=(s,b,_)::R) (cJ rfl) ?_
 repeat' (first|refine W_ ?_|refine ac ?_)
 refine aZ x_ rfl () trivial rfl (.app _ R) ?_ rfl
 dsimp only [tB]
 rw[show m.ready.length=0 by rw[h0];rfl]
 exact .refl _
theorem xz (_hst:ay G) (s b:Nat) (m:ad) (y:bJ) (k:Int) (l:List Int) (h0:m.ready=k::l) (hl:m.ready.length<=1048576):CtM Tryz.prog G 261 [.mp s b 0] [mB s b m y,(y.2.2.2.2.2.1,y.2.2.2.2.2.2,.row 1 (aS m.ready))] (fun _:Nat×Nat=>True) (fun u=>[mB s b (nxI m k l) (yR y u),(u.1,u.2,.row 1 (aS l))]) (fun _=>.tup []):=by
 refine au Tryz.func261 rfl Tryz.ntmps261 rfl rfl rfl fun w0 R gs objsR hG hR=>?_
 obtain rfl:=hR.eq
 clear hR
 have hrl:=aj m.ready
 have hll:m.ready.length=l.length+1:=by rw[h0];rfl
 have hr0:(aS m.ready)[0]?=some [.int .i64 k]:=by rw[h0];rfl
 have hdr:(aS m.ready).drop 1=aS l:=by rw[h0];rfl
 have hrl2:=aj l
 unfold mB imC
 refine aR (objs':=(s,b,_)::(y.2.2.2.2.2.1,y.2.2.2.2.2.2,_)::R) (cJ rfl) ?_
 repeat' (first|refine W_ ?_|refine ac ?_|((with_reducible apply jn (n:=0));rfl;rfl;kernel_rfl;kernel_rfl;rfl;kernel_rfl;rfl;rfl;rfl;rfl;intro ss bb))
 refine oY (t:=25) rfl (by rw[hrl]) (by repeat (first|exact .head _|apply yQ.tail)) ?_
 repeat' (first|refine W_ ?_|refine ac ?_|refine acJ ?_|((with_reducible apply dN);rfl;rfl;rfl;kernel_rfl;(repeat (first|with_reducible exact mh|with_reducible refine mt ?_));(first|with_reducible assumption|exact aI _|exact aj _|exact aH _|exact Zf _|assumption|rfl);omega;(intro bq;(repeat (first|with_reducible exact Upd.head _|with_reducible apply Upd.tail)));intro bb))
 exact aZ x_ rfl (ss,bb) trivial rfl (.app _ R) (.perm (List.Perm.swap _ _ _)) rfl
theorem zM (_hst:ay G) (s b:Nat) (m:ad) (y:bJ) (_hpl:m.processes.length<=1048576) {n:Nat} (hn:m.now=n) {p:ag} (hp:m.processes[n]?=some p) (hmn:p.main=true) (v:ab):CtM Tryz.prog G 209 [.mp s b 0,.agg [.int .i64 v.kind,.int .i64 v.number,.str v.text]] [mB s b m y,mP y m.processes] (fun _:Unit=>True) (fun _=>[mB s b (tB m 1 v) y,mP y m.processes]) (fun _=>.tup []):=by
 refine au Tryz.func209 rfl Tryz.ntmps209 rfl rfl rfl fun w0 R gs objsR hG hR=>?_
 obtain rfl:=hR.eq
 clear hR
 have hrow:(m.processes.map (ag.tw 0))[n]?=some [.int .i64 p.at_,.bool true]:=by rw[Zj,hp,<- hmn];rfl
 have hl:n<m.processes.length:=(List.getElem?_eq_some_iff.1 hp).1
 have hrl:(m.processes.map (ag.tw 0)).length=m.processes.length:=Zf _
 unfold mB mP imC
 rw[hn]
 refine aR (objs':=(s,b,_)::(y.2.2.2.2.1.1,y.2.2.2.2.1.2,_)::R) (cJ rfl) ?_
 repeat' (first|refine V_ ?_|refine aJ ?_|refine ac ?_)
 refine aZ x_ rfl () trivial rfl (.app _ R) ?_ rfl
 dsimp only [tB]
 rw[hn]
 exact .refl _
theorem z6 (hst:ay G) (s b:Nat) (m:ad) (y:bJ) (_hpl:m.processes.length<=1048576) {n:Nat} (hn:m.now=n) {p:ag} (hp:m.processes[n]?=some p) (hmn:p.main=false) (h0:m.ready=[]) (v:ab):CtM Tryz.prog G 209 [.mp s b 0,.agg [.int .i64 v.kind,.int .i64 v.number,.str v.text]] [mB s b m y,mP y m.processes] (fun _:Unit=>True) (fun _=>[mB s b (tB m 4 m.value) y,mP y m.processes]) (fun _=>.tup []):=by
 refine au Tryz.func209 rfl Tryz.ntmps209 rfl rfl rfl fun w0 R gs objsR hG hR=>?_
 obtain rfl:=hR.eq
 clear hR
 have hrow:(m.processes.map (ag.tw 0))[n]?=some [.int .i64 p.at_,.bool false]:=by rw[Zj,hp,<- hmn];rfl
 have hl:n<m.processes.length:=(List.getElem?_eq_some_iff.1 hp).1
 have hrl:(m.processes.map (ag.tw 0)).length=m.processes.length:=Zf _
 have hsw:=wy hst s b m y h0
 unfold mB imC at hsw
 unfold mB mP imC
 rw[hn] at hsw |-
 refine aR (objs':=(s,b,_)::(y.2.2.2.2.1.1,y.2.2.2.2.1.2,_)::R) (cJ rfl) ?_
 repeat' (first|refine V_ ?_|refine aJ ?_|((with_reducible apply aA);rfl;kernel_rfl;(repeat (first|exact az.nil|((with_reducible apply az.cons);rfl)));exact hG;exact hsw;exact .cons _ _ _ _ (.nil _);rintro ⟨⟩ -;refine bO ?_))
 exact aZ x_ rfl () trivial rfl (.app _ R) (.refl _) rfl
theorem aaB (hst:ay G) (s b:Nat) (m:ad) (y:bJ) (_hpl:m.processes.length<=1048576) {n:Nat} (hn:m.now=n) {p:ag} (hp:m.processes[n]?=some p) (hmn:p.main=false) (k:Int) (l:List Int) (h0:m.ready=k::l) (hlr:m.ready.length<=1048576) (v:ab):CtM Tryz.prog G 209 [.mp s b 0,.agg [.int .i64 v.kind,.int .i64 v.number,.str v.text]] [mB s b m y,(y.2.2.2.2.2.1,y.2.2.2.2.2.2,.row 1 (aS m.ready)),mP y m.processes] (fun _:Nat×Nat=>True) (fun u=>[mB s b (nxI m k l) (yR y u),(u.1,u.2,.row 1 (aS l)),mP y m.processes]) (fun _=>.tup []):=by
 refine au Tryz.func209 rfl Tryz.ntmps209 rfl rfl rfl fun w0 R gs objsR hG hR=>?_
 obtain rfl:=hR.eq
 clear hR
 have hrow:(m.processes.map (ag.tw 0))[n]?=some [.int .i64 p.at_,.bool false]:=by rw[Zj,hp,<- hmn];rfl
 have hl:n<m.processes.length:=(List.getElem?_eq_some_iff.1 hp).1
 have hrl:(m.processes.map (ag.tw 0)).length=m.processes.length:=Zf _
 have hsw:=xz hst s b m y k l h0 hlr
 unfold mB imC at hsw
 unfold mB mP imC
 rw[hn] at hsw |-
 refine aR (objs':=(s,b,_)::(y.2.2.2.2.2.1,y.2.2.2.2.2.2,_)::(y.2.2.2.2.1.1,y.2.2.2.2.1.2,_)::R) (cJ rfl) ?_
 repeat' (first|refine V_ ?_|refine aJ ?_|((with_reducible apply aA);rfl;kernel_rfl;(repeat (first|exact az.nil|((with_reducible apply az.cons);rfl)));exact hG;exact hsw;exact .cons _ _ _ _ (.cons _ _ _ _ (.nil _));intro u hu;refine fM ?_))
 exact aZ x_ rfl u trivial rfl (.app _ R) (.refl _) rfl
end
def blR (m:ad) (y:bJ):Nat×Nat×aV:=(y.2.2.1.1,y.2.2.1.2,.row 6 (m.blocks.map (aq.tw 0)))
def cdR (m:ad) (y:bJ):Nat×Nat×aV:=(y.1.2.1.1.1,y.1.2.1.1.2,.row 4 (nR cT m.base.codes y.1.2.1.2))
def rdR (m:ad) (y:bJ):Nat×Nat×aV:=(y.2.2.2.2.2.1,y.2.2.2.2.2.2,.row 1 (aS m.ready))
def kJ (m:ad) (y:bJ):aG:=rk m.base.classes y.1.1++(nO fu m.base.codes y.1.2.1.2++(aeN m.base.entries y.1.2.2++(rk m.store.classes y.2.1.1++[(y.2.1.2.2.1,y.2.1.2.2.2,.row 1 (ca m.store.output))])))
theorem xy (m:ad) (y:bJ):(mX y (nRg aM m.contexts y.2.2.2.1.2)::mO y (nRg cf m.store.objects y.2.1.2.1.2)::mP y m.processes::blR m y::cdR m y::rdR m y::(nOg cI m.store.objects y.2.1.2.1.2++(nOg bG m.contexts y.2.2.2.1.2++kJ m y))).Perm (imO m y):=by
 have h:=bA (n:=13) [rk m.base.classes y.1.1,[cdR m y],nO fu m.base.codes y.1.2.1.2,aeN m.base.entries y.1.2.2,rk m.store.classes y.2.1.1,[mO y (nRg cf m.store.objects y.2.1.2.1.2)],nOg cI m.store.objects y.2.1.2.1.2,[(y.2.1.2.2.1,y.2.1.2.2.2,aV.row 1 (ca m.store.output))],[blR m y],[mX y (nRg aM m.contexts y.2.2.2.1.2)],nOg bG m.contexts y.2.2.2.1.2,[mP y m.processes],[rdR m y]] [9,5,11,8,1,12,6,10,0,2,3,4,7] rfl (by decide)
 simpa [imO,stO,cbO,agy,afZ,ad7,kJ,mX,mO,mP,blR,cdR,rdR] using h
theorem pl (m:ad) (y:bJ) (B:Nat×Nat×aV) (R:aG):bS (B::mX y (nRg aM m.contexts y.2.2.2.1.2)::mO y (nRg cf m.store.objects y.2.1.2.1.2)::mP y m.processes::blR m y::cdR m y::rdR m y::(nOg cI m.store.objects y.2.1.2.1.2++(nOg bG m.contexts y.2.2.2.1.2++(kJ m y++R)))) (B::(imO m y++R)):=.perm (by
 have h:=((xy m y).append_right R).cons B
 simpa using h)
theorem cX (m:ad) (y:bJ) (B:Nat×Nat×aV) (R:aG):bS (B::(imO m y++R)) (B::mX y (nRg aM m.contexts y.2.2.2.1.2)::mO y (nRg cf m.store.objects y.2.1.2.1.2)::mP y m.processes::blR m y::cdR m y::rdR m y::(nOg cI m.store.objects y.2.1.2.1.2++(nOg bG m.contexts y.2.2.2.1.2++(kJ m y++R)))):=.perm (by
 have h:=(((xy m y).append_right R).cons B).symm
 simpa using h)
theorem q8 {NX E NO T:aG} {v B x1 x2 x3 x4 x5 x6 a b c:Nat×Nat×aV} (h:NX.Perm ([a,b,c]++E)):bS (v::B::x1::x2::x3::x4::x5::x6::a::b::c::(NO++(E++T))) (v::B::x1::x2::x3::x4::x5::x6::(NO++(NX++T))):=.perm (by
 have h1:([v,B,x1,x2,x3,x4,x5,x6]++(NO++(NX++T))).Perm ([v,B,x1,x2,x3,x4,x5,x6]++(NO++(([a,b,c]++E)++T))):=ZW _ (ZW _ (h.append_right T))
 have h2:=bA (n:=5) [[v,B,x1,x2,x3,x4,x5,x6],[a,b,c],NO,E,T] [0,2,1,3,4] rfl (by decide)
 have h3:([v,B,x1,x2,x3,x4,x5,x6]++(NO++(([a,b,c]++E)++T))).Perm ([v,B,x1,x2,x3,x4,x5,x6]++([a,b,c]++(NO++(E++T)))):=by simpa using h2
 have h4:=(h1.trans h3).symm
 simpa using h4)
theorem iC {NX E NO T:aG} {v B x1 x2 x3 x4 x5 x6 a b c:Nat×Nat×aV} (h:NX.Perm ([a,b,c]++E)):bS (v::B::x1::x2::x3::x4::x5::x6::(NO++(NX++T))) (v::B::x1::x2::x3::x4::x5::x6::a::b::c::(NO++(E++T))):=.perm (by
 have h1:([v,B,x1,x2,x3,x4,x5,x6]++(NO++(NX++T))).Perm ([v,B,x1,x2,x3,x4,x5,x6]++(NO++(([a,b,c]++E)++T))):=ZW _ (ZW _ (h.append_right T))
 have h2:=bA (n:=5) [[v,B,x1,x2,x3,x4,x5,x6],[a,b,c],NO,E,T] [0,2,1,3,4] rfl (by decide)
 have h3:([v,B,x1,x2,x3,x4,x5,x6]++(NO++(([a,b,c]++E)++T))).Perm ([v,B,x1,x2,x3,x4,x5,x6]++([a,b,c]++(NO++(E++T)))):=by simpa using h2
 have h4:=h1.trans h3
 simpa using h4)
structure MFa (m:ad) (np:Nat) (pr:ag):Prop where
 small:m.small 1048576
 big:m.contexts.length<=1048576
 send:eY m
 mks:MkF m
 now:m.now=np
 prc:m.processes[np]?=some pr
variable {G:World->Prop}
def ahO (G:World->Prop) (m:ad) (s b n:Nat):Prop:=∀(os:List ar) (y:bJ) (r:List ar×Ac) (t:Int) (v:ab),os.length=m.store.objects.length->imI (fb m os m.contexts m.processes) y->t<m.contexts.length->goF m n os (.giv t v)=some r->CtM Tryz.prog G 131 [.mp s b 0,.agg [.int .i64 v.kind,.int .i64 v.number,.str v.text],.int .i64 t] ((s,b,.box (imC m y))::imO (fb m os m.contexts m.processes) y) (fun y'=>imI (acI m r.1 r.2) y') (fun y'=>(s,b,.box (imC (acI m r.1 r.2) y'))::imO (acI m r.1 r.2) y') (fun _=>.tup [])
def aic (G:World->Prop) (m:ad) (s b n:Nat):Prop:=∀(os:List ar) (y:bJ) (r:List ar×Ac) (i wo:Int) (v:ab) (rr:Bool),os.length=m.store.objects.length->imI (fb m os m.contexts m.processes) y->i<m.contexts.length->wo<m.contexts.length->goF m n os (.lea i wo v rr)=some r->CtM Tryz.prog G 47 [.mp s b 0,.int .i64 i,.int .i64 wo,.agg [.int .i64 v.kind,.int .i64 v.number,.str v.text],.bool rr] ((s,b,.box (imC m y))::imO (fb m os m.contexts m.processes) y) (fun y'=>imI (acI m r.1 r.2) y') (fun y'=>(s,b,.box (imC (acI m r.1 r.2) y'))::imO (acI m r.1 r.2) y') (fun _=>.tup [])
theorem ahU (rw b cd x:Nat×Nat×aV) (T:aG):bS (x::b::cd::rw::T) (rw::b::cd::x::T):=(.perm (by
 have h:=bA (n:=5) [[rw],[b],[cd],[x],T] [3,1,2,0,4] rfl (by decide)
 exact(show (x::b::cd::rw::T).Perm (rw::b::cd::x::T) from by simpa using h)))
theorem afs (x b cd:Nat×Nat×aV) (T:aG):bS (b::cd::x::T) (x::b::cd::T):=(.perm (by
 have h:=bA (n:=4) [[x],[b],[cd],T] [1,2,0,3] rfl (by decide)
 exact(show (b::cd::x::T).Perm (x::b::cd::T) from by simpa using h)))
section
variable {G:World->Prop}
theorem aia (_hst:ay G) (cc s b:Nat) (m:ad) (y:bJ) (rows:List (List TV)) (hrl:rows.length=m.contexts.length) (hcl:m.contexts.length<=1048600) (c:ao) (sv bv:Nat):CtM Tryz.prog G 212 [.cp cc [.mp s b 0,.nilp],.agg [.int .i64 c.mark,.int .i64 c.code,.int .i64 c.pc,.int .i64 c.sender,.int .i64 c.outer,.int .i64 c.home,.int .i64 c.self.kind,.int .i64 c.self.number,.str c.self.text,.nils,.nils,.ms sv bv 0 1,.int .i64 c.other,.bool c.retry]] [mX y rows,mB s b m y] (fun _:Nat=>True) (fun bz=>[mX (yX y bz) (rows++[[.int .i64 c.mark,.int .i64 c.code,.int .i64 c.pc,.int .i64 c.sender,.int .i64 c.outer,.int .i64 c.home,.int .i64 c.self.kind,.int .i64 c.self.number,.str c.self.text,.nils,.nils,.ms sv bv 0 1,.int .i64 c.other,.bool c.retry]]),mB s b (adC m c) (yX y bz)]) (fun _=>.int .i64 (m.contexts.length:Int)):=by
 refine au Tryz.func212 rfl Tryz.ntmps212 rfl rfl rfl fun w0 R gs objsR hG hR=>?_
 obtain rfl:=hR.eq
 clear hR
 unfold mX mB adC yX imC
 refine aR (objs':=(y.2.2.2.1.1.1,y.2.2.2.1.1.2,.row 14 rows)::(s,b,_)::R) (cJ rfl) ?_
 repeat' (first|refine W_ ?_|refine aJ ?_|((with_reducible apply fm (id:=1) 16);kernel_rfl;kernel_rfl;kernel_rfl;rfl;(repeat (first|exact Cut.zero _|apply Cut.succ)))|((with_reducible apply m_q);exact ym_;rfl;exact ez)|((with_reducible apply cA);rfl;(intro p;try dsimp only);(repeat (first|exact TB.nil _|((with_reducible apply TB.cons);rfl;rfl;(first|exact .nil _|exact .put _ _ _ _ _ (.nil _)|exact .skip _ _ _ _ _ (.put _ _ _ _ _ (.nil _))|exact .skip _ _ _ _ _ (.skip _ _ _ _ _ (.put _ _ _ _ _ (.nil _)))|(repeat (first|exact .nil _|apply aW.put|apply aW.skip)));kernel_rfl)));rfl;kernel_rfl;kernel_rfl;exact ez)|((with_reducible apply jh);(intro p;rfl);rfl;kernel_rfl;kernel_rfl;rfl;kernel_rfl;rfl;(intro p;rfl);rfl;(intro p;rfl);exact ez)|((with_reducible apply kj);(intro p;rfl);(intro p;rfl);rfl;kernel_rfl;(intro p;rfl);exact hrl;(intro p;show List.length _=1;rfl);omega;exact fun p=>rfl;exact⟨by decide,by decide⟩;exact im;rfl;(focus (simp;done)))|(with_reducible refine DM.nil _ _ _ ?_))
 intro p hp
 clear hp
 refine bV (objs':=(y.2.2.2.1.1.1,(p 13).b,.row 14 (rows++[[.int .i64 c.mark,.int .i64 c.code,.int .i64 c.pc,.int .i64 c.sender,.int .i64 c.outer,.int .i64 c.home,.int .i64 c.self.kind,.int .i64 c.self.number,.str c.self.text,.nils,.nils,.ms sv bv 0 1,.int .i64 c.other,.bool c.retry]]))::(s,b,_)::R) (by rw[show et _=[_] from rfl];(try simp only[ZC,ZK,Zt,ZF,Zx]);(try rfl)) ?_
 dsimp only [Nat.reduceAdd]
 generalize Yu.b (p 13)=bz
 repeat' (first|refine W_ ?_|refine ac ?_)
 refine aw x_ rfl bz trivial rfl (.app _ R) ?_ (.tmp _ _ rfl) ?_
 ·simp only[fb,Zh,Zy,YE];exact .refl _
 ·simp
theorem aie (_hst:ay G) (cc s b:Nat) (m:ad) (y:bJ) (rows:List (List TV)) (hrl:rows.length=m.contexts.length) (hcl:m.contexts.length<=1048600) (c:ao) (sv bv n:Nat):CtM Tryz.prog G 212 [.cp cc [.mp s b 0,.nilp],.agg [.int .i64 c.mark,.int .i64 c.code,.int .i64 c.pc,.int .i64 c.sender,.int .i64 c.outer,.int .i64 c.home,.int .i64 c.self.kind,.int .i64 c.self.number,.str c.self.text,.ms sv bv 0 n,.nils,.nils,.int .i64 c.other,.bool c.retry]] [mX y rows,mB s b m y] (fun _:Nat=>True) (fun bz=>[mX (yX y bz) (rows++[[.int .i64 c.mark,.int .i64 c.code,.int .i64 c.pc,.int .i64 c.sender,.int .i64 c.outer,.int .i64 c.home,.int .i64 c.self.kind,.int .i64 c.self.number,.str c.self.text,.ms sv bv 0 n,.nils,.nils,.int .i64 c.other,.bool c.retry]]),mB s b (adC m c) (yX y bz)]) (fun _=>.int .i64 (m.contexts.length:Int)):=by
 refine au Tryz.func212 rfl Tryz.ntmps212 rfl rfl rfl fun w0 R gs objsR hG hR=>?_
 obtain rfl:=hR.eq
 clear hR
 unfold mX mB adC yX imC
 refine aR (objs':=(y.2.2.2.1.1.1,y.2.2.2.1.1.2,.row 14 rows)::(s,b,_)::R) (cJ rfl) ?_
 repeat' (first|refine W_ ?_|refine aJ ?_|((with_reducible apply fm (id:=1) 16);kernel_rfl;kernel_rfl;kernel_rfl;rfl;(repeat (first|exact Cut.zero _|apply Cut.succ)))|((with_reducible apply m_q);exact ym_;rfl;exact ez)|((with_reducible apply cA);rfl;(intro p;try dsimp only);(repeat (first|exact TB.nil _|((with_reducible apply TB.cons);rfl;rfl;(first|exact .nil _|exact .put _ _ _ _ _ (.nil _)|exact .skip _ _ _ _ _ (.put _ _ _ _ _ (.nil _))|exact .skip _ _ _ _ _ (.skip _ _ _ _ _ (.put _ _ _ _ _ (.nil _)))|(repeat (first|exact .nil _|apply aW.put|apply aW.skip)));kernel_rfl)));rfl;kernel_rfl;kernel_rfl;exact ez)|((with_reducible apply jh);(intro p;rfl);rfl;kernel_rfl;kernel_rfl;rfl;kernel_rfl;rfl;(intro p;rfl);rfl;(intro p;rfl);exact ez)|((with_reducible apply kj);(intro p;rfl);(intro p;rfl);rfl;kernel_rfl;(intro p;rfl);exact hrl;(intro p;show List.length _=1;rfl);omega;exact fun p=>rfl;exact⟨by decide,by decide⟩;exact im;rfl;(focus (simp;done)))|(with_reducible refine DM.nil _ _ _ ?_))
 intro p hp
 clear hp
 refine bV (objs':=(y.2.2.2.1.1.1,(p 13).b,.row 14 (rows++[[.int .i64 c.mark,.int .i64 c.code,.int .i64 c.pc,.int .i64 c.sender,.int .i64 c.outer,.int .i64 c.home,.int .i64 c.self.kind,.int .i64 c.self.number,.str c.self.text,.ms sv bv 0 n,.nils,.nils,.int .i64 c.other,.bool c.retry]]))::(s,b,_)::R) (by rw[show et _=[_] from rfl];(try simp only[ZC,ZK,Zt,ZF,Zx]);(try rfl)) ?_
 dsimp only [Nat.reduceAdd]
 generalize Yu.b (p 13)=bz
 repeat' (first|refine W_ ?_|refine ac ?_)
 refine aw x_ rfl bz trivial rfl (.app _ R) ?_ (.tmp _ _ rfl) ?_
 ·simp only[fb,Zh,Zy,YE];exact .refl _
 ·simp
theorem ad9 (hst:ay G) (cc s b:Nat) (m:ad) (y:bJ) (rows:List (List TV)) (hrl:rows.length=m.contexts.length) (hcl:m.contexts.length<=1048600) (k sn oth:Int) (v:ab) (sv bv:Nat):CtM Tryz.prog G 138 [.cp cc [.mp s b 0,.nilp],.int .i64 k,.int .i64 sn,.int .i64 oth,.ms sv bv 0 1] [mX y rows,mB s b m y] (fun _:Nat×Nat×Nat=>True) (fun u=>[mX (yX y u.1) (rows++[aM (ft k sn oth false v) ((u.2.1,0),(u.2.2,0),(sv,bv))]),mB s b (adC m (ft k sn oth false v)) (yX y u.1),(u.2.1,0,.row 3 []),(u.2.2,0,.row 3 [])]) (fun _=>.int .i64 (m.contexts.length:Int)):=by
 refine au Tryz.func138 rfl Tryz.ntmps138 rfl rfl rfl fun w0 R gs objsR hG hR=>?_
 obtain rfl:=hR.eq
 clear hR
 have hp:=aia hst cc s b m y rows hrl hcl (ft k sn oth false v) sv bv
 have hmk:=aee k sn oth false v
 generalize hc:ft k sn oth false v=c at hp hmk |-
 have e0:c.mark=k:=by rw[<- hc];rfl
 have e1:c.code=0:=by rw[<- hc];rfl
 have e2:c.pc=0:=by rw[<- hc];rfl
 have e3:c.sender=sn:=by rw[<- hc];rfl
 have e4:c.outer=-1:=by rw[<- hc];rfl
 have e5:c.home=-1:=by rw[<- hc];rfl
 have e6:c.self=⟨0,0,⟨#[]⟩⟩:=by rw[<- hc];rfl
 have e7:c.other=oth:=by rw[<- hc];rfl
 have e8:c.retry=false:=by rw[<- hc];rfl
 rw[e0,e1,e2,e3,e4,e5,e6,e7,e8] at hp
 refine aR (objs':=_::_::R) (cJ rfl) ?_
 repeat' (first|refine W_ ?_|refine er ?_|((with_reducible apply aA);rfl;kernel_rfl;(repeat (first|exact az.nil|((with_reducible apply az.cons);rfl)));exact hG;exact hp;exact .cons _ _ _ _ (.cons _ _ _ _ (.nil _));intro bz hbz;refine fM ?_))
 unfold mX
 refine gQ rows.length 9 3 (by decide) (gS _ _) rfl fun s1=>?_
 rw[gV]
 refine gQ rows.length 10 3 (by decide) (gS _ _) rfl fun s2=>?_
 rw[gV]
 dsimp only [List.set]
 refine aw x_ rfl (bz,s1,s2) trivial rfl (.app _ R) ?_ (.tmp _ _ rfl) rfl
 dsimp only
 rw[hmk]
 exact .perm (by
   have h:=bA (n:=5) [[((yX y bz).2.2.2.1.1.1,(yX y bz).2.2.2.1.1.2,aV.row 14 (rows++[[.int .i64 k,.int .i64 0,.int .i64 0,.int .i64 sn,.int .i64 (-1),.int .i64 (-1),.int .i64 0,.int .i64 0,.str ⟨#[]⟩,.ms s1 0 0 0,.ms s2 0 0 0,.ms sv bv 0 1,.int .i64 oth,.bool false]]))],[(s2,0,aV.row 3 [])],[(s1,0,aV.row 3 [])],[mB s b (adC m c) (yX y bz)],R] [0,3,2,1,4] rfl (by decide)
   simpa using h)
theorem aak (_hst:ay G) (A:Nat×Nat×aV) (cc s b:Nat) (m:ad) (y:bJ) (hyc:y.1.2.1.2.length=m.base.codes.length) (_hzc:m.base.codes.length<=1048576) {cq n:Nat} {x:aB} (hcx:m.base.codes[cq]?=some x) (hxs:x.slots=n) (hn:n<=1000):CtM Tryz.prog G 262 [.cp cc [.mp s b 0,.nilp],.int .i64 (cq:Int),.nils] [A,mB s b m y,(y.1.2.1.1.1,y.1.2.1.1.2,.row 4 (nR cT m.base.codes y.1.2.1.2))] (fun _:Nat×Nat=>True) (fun u=>[A,mB s b m y,(y.1.2.1.1.1,y.1.2.1.1.2,.row 4 (nR cT m.base.codes y.1.2.1.2)),(u.1,u.2,.row 3 ((List.replicate n zV).map (ab.tw 0)))]) (fun u=>.ms u.1 u.2 0 n):=by
 refine au Tryz.func262 rfl Tryz.ntmps262 rfl rfl rfl fun w0 R gs objsR hG hR=>?_
 obtain rfl:=hR.eq
 clear hR
 have hz:(List.replicate n zV).map (ab.tw 0)=List.replicate n [.int .i64 0,.int .i64 0,.str ⟨#[]⟩]:=by rw[List.map_replicate];rfl
 rw[hz]
 have hcl2:=(List.getElem?_eq_some_iff.1 hcx).1
 obtain⟨pc,hpc⟩:∃pc,y.1.2.1.2[cq]?=some pc:=⟨_,Za (by rw[hyc];exact hcl2)⟩
 have hrc:(nR cT m.base.codes y.1.2.1.2)[cq]?=some [.bool x.block,.int .i64 x.params,.int .i64 x.slots,.ms pc.1 pc.2 0 x.instrs.length]:=yI cT hcx hpc
 have hcdl:(nR cT m.base.codes y.1.2.1.2).length=m.base.codes.length:=ni _ hyc
 rw[hxs] at hrc
 unfold mB imC
 refine aR (objs':=(s,b,_)::(y.1.2.1.1.1,y.1.2.1.1.2,_)::A::R) (afs _ _ _ _) ?_
 repeat' (first|refine W_ ?_|(refine gK ?_;intro ss bb)|((with_reducible apply ae8);rfl;rfl;rfl;kernel_rfl;kernel_rfl))
 exact aw x_ rfl (ss,bb) trivial rfl (.app _ R) (ahU _ _ _ _ _) (.tmp _ _ rfl) rfl
end
theorem ahv (a x b bl cd:Nat×Nat×aV) (T:aG):bS (x::b::cd::a::bl::T) (a::x::b::bl::cd::T):=(.perm (by
 have h:=bA (n:=6) [[a],[x],[b],[bl],[cd],T] [1,2,4,0,3,5] rfl (by decide)
 exact(show (x::b::cd::a::bl::T).Perm (a::x::b::bl::cd::T) from by simpa using h)))
theorem ah1 (x s2 s1 b cd rw a bl:Nat×Nat×aV) (T:aG):bS (x::b::rw::s1::s2::bl::cd::T) (x::s2::s1::b::cd::rw::a::bl::T):=.trans (.sub (show List.Sublist (x::b::rw::s1::s2::bl::cd::T) (a::x::b::rw::s1::s2::bl::cd::T) from by
 have h:=Z1 ([a]) (x::b::rw::s1::s2::bl::cd::T)
 simpa using h)) (.perm (by
 have h:=bA (n:=9) [[x],[s2],[s1],[b],[cd],[rw],[a],[bl],T] [6,0,3,5,2,1,7,4,8] rfl (by decide)
 exact(show (a::x::b::rw::s1::s2::bl::cd::T).Perm (x::s2::s1::b::cd::rw::a::bl::T) from by simpa using h)))
theorem ahc (x b p bl cd:Nat×Nat×aV) (T:aG):bS (x::b::bl::cd::p::T) (x::b::p::bl::cd::T):=(.perm (by
 have h:=bA (n:=6) [[x],[b],[p],[bl],[cd],T] [0,1,3,4,2,5] rfl (by decide)
 exact(show (x::b::bl::cd::p::T).Perm (x::b::p::bl::cd::T) from by simpa using h)))
theorem ah4 (x b rw s1 s2 bl cd p:Nat×Nat×aV) (T:aG):bS (b::p::x::rw::s1::s2::bl::cd::T) (x::b::rw::s1::s2::bl::cd::p::T):=(.perm (by
 have h:=bA (n:=9) [[x],[b],[rw],[s1],[s2],[bl],[cd],[p],T] [1,7,0,2,3,4,5,6,8] rfl (by decide)
 exact(show (b::p::x::rw::s1::s2::bl::cd::T).Perm (x::b::rw::s1::s2::bl::cd::p::T) from by simpa using h)))
theorem ahf (b p x rw s1 s2 bl cd:Nat×Nat×aV) (T:aG):bS (x::b::p::rw::s1::s2::bl::cd::T) (b::p::x::rw::s1::s2::bl::cd::T):=(.perm (by
 have h:=bA (n:=9) [[b],[p],[x],[rw],[s1],[s2],[bl],[cd],T] [2,0,1,3,4,5,6,7,8] rfl (by decide)
 exact(show (x::b::p::rw::s1::s2::bl::cd::T).Perm (b::p::x::rw::s1::s2::bl::cd::T) from by simpa using h)))
section
variable {G:World->Prop}
theorem qf (hst:ay G) (cc s b:Nat) (m:ad) (y:bJ) (rows:List (List TV)) (hrl:rows.length=m.contexts.length) (hcl:m.contexts.length<=1048600) (_hzb:m.blocks.length<=1048576) (hzc:m.base.codes.length<=1048576) (hyc:y.1.2.1.2.length=m.base.codes.length) (v:ab) {q cq n:Nat} {bk:aq} {x:aB} (hb:zk m v q cq bk x n) (k:Int):CtM Tryz.prog G 214 [.cp cc [.mp s b 0,.nilp],.int .i64 (q:Int),.int .i64 k,.nils] [mX y rows,mB s b m y,(y.2.2.1.1,y.2.2.1.2,.row 6 (m.blocks.map (aq.tw 0))),(y.1.2.1.1.1,y.1.2.1.1.2,.row 4 (nR cT m.base.codes y.1.2.1.2))] (fun _:Nat×(Nat×Nat)×Nat×Nat=>True) (fun u=>[mX (yX y u.1) (rows++[aM (gf m v k) (u.2.1,(u.2.2.1,0),(u.2.2.2,0))]),mB s b (adC m (gf m v k)) (yX y u.1),(u.2.1.1,u.2.1.2,.row 3 ((List.replicate n zV).map (ab.tw 0))),(u.2.2.1,0,.row 3 []),(u.2.2.2,0,.row 3 []),(y.2.2.1.1,y.2.2.1.2,.row 6 (m.blocks.map (aq.tw 0))),(y.1.2.1.1.1,y.1.2.1.1.2,.row 4 (nR cT m.base.codes y.1.2.1.2))]) (fun _=>.int .i64 (m.contexts.length:Int)):=by
 refine au Tryz.func214 rfl Tryz.ntmps214 rfl rfl rfl fun w0 R gs objsR hG hR=>?_
 obtain rfl:=hR.eq
 clear hR
 have hbc:=hb.eq k
 have hql:=(List.getElem?_eq_some_iff.1 hb.blk).1
 have hrb:(m.blocks.map (aq.tw 0))[q]?=some [.int .i64 bk.code,.int .i64 bk.outer,.int .i64 bk.home,.int .i64 bk.self.kind,.int .i64 bk.self.number,.str bk.self.text]:=by rw[Zj,hb.blk];rfl
 have hbl:(m.blocks.map (aq.tw 0)).length=m.blocks.length:=Zf _
 rw[hb.code] at hrb
 have hmk:∀p,aM (gf m v k) p=[.int .i64 0,.int .i64 bk.code,.int .i64 0,.int .i64 k,.int .i64 bk.outer,.int .i64 bk.home,.int .i64 bk.self.kind,.int .i64 bk.self.number,.str bk.self.text,.ms p.1.1 p.1.2 0 n,.ms p.2.1.1 p.2.1.2 0 0,.ms p.2.2.1 p.2.2.2 0 0,.int .i64 0,.bool false]:=fun p=>by rw[hbc];simp[aM]
 have hp:=fun sl bl=>aie hst cc s b m y rows hrl hcl (gf m v k) sl bl n
 have hsl:=aak hst (mX y rows) cc s b m y hyc hzc hb.cod hb.slots (by have:=hb.le;omega)
 generalize hc:gf m v k=c at hp hmk hbc |-
 rw[hbc] at hp
 dsimp only at hp
 rw[hb.code] at hp hmk
 unfold mX mB imC
 refine aR (objs':=(y.2.2.2.1.1.1,y.2.2.2.1.1.2,_)::(s,b,_)::(y.2.2.1.1,y.2.2.1.2,_)::(y.1.2.1.1.1,y.1.2.1.1.2,_)::R) (cJ rfl) ?_
 repeat' (first|refine H_ 2 ?_|(refine ak ?_;intro ss bb)|refine ac ?_)
 generalize ss=s8
 generalize bb=b8
 refine⟨?_⟩
 refine aR (ahv _ _ _ _ _ _) ?_
 have hp3:=fun ps:Nat×Nat=>(hp ps.1 ps.2).frame [(y.1.2.1.1.1,y.1.2.1.1.2,.row 4 (nR cT m.base.codes y.1.2.1.2)),(ps.1,ps.2,.row 3 ((List.replicate n zV).map (ab.tw 0)))]
 unfold mX mB imC at hp3 hsl
 have hp4:=fun p:Pt=>hp3 (Enc.dec (p 14))
 repeat' (first|refine W_ ?_|((with_reducible apply vG (id:=2) 17);kernel_rfl;kernel_rfl;kernel_rfl;rfl;(repeat (first|exact Cut.zero _|apply Cut.succ)))|((with_reducible apply m_q);exact ym_;rfl;exact ez)|((with_reducible apply cA);rfl;(intro p;try dsimp only);(repeat (first|exact TB.nil _|((with_reducible apply TB.cons);rfl;rfl;(first|exact .nil _|exact .put _ _ _ _ _ (.nil _)|exact .skip _ _ _ _ _ (.put _ _ _ _ _ (.nil _))|exact .skip _ _ _ _ _ (.skip _ _ _ _ _ (.put _ _ _ _ _ (.nil _)))|(repeat (first|exact .nil _|apply aW.put|apply aW.skip)));kernel_rfl)));rfl;kernel_rfl;kernel_rfl;exact ez)|((with_reducible apply rB (i:=1000000) hG (fun _=>hsl));rfl;kernel_rfl;(intro p;(repeat (first|exact az.nil|((with_reducible apply az.cons);rfl))));(intro p;rfl);(intro h;exact absurd h (by decide));(intro p p' h;rfl);(intro p p' h;rfl);rfl;(focus (simp;done)))|((with_reducible apply rB (i:=14) hG hp4);rfl;kernel_rfl;(intro p;(repeat (first|exact az.nil|((with_reducible apply az.cons);rfl))));(intro p;rfl);exact fun _=>ah_;exact im;exact im;rfl;(focus (simp;done)))|(with_reducible refine DM.nil _ _ _ ?_))
 intro p hp0
 clear hp0
 refine bV (objs':=((yX y (Enc.dec (p 16))).2.2.2.1.1.1,(yX y (Enc.dec (p 16))).2.2.2.1.1.2,.row 14 (rows++[[.int .i64 0,.int .i64 (cq:Int),.int .i64 0,.int .i64 k,.int .i64 bk.outer,.int .i64 bk.home,.int .i64 bk.self.kind,.int .i64 bk.self.number,.str bk.self.text,.ms (Enc.dec (p 14):Nat×Nat).1 (Enc.dec (p 14):Nat×Nat).2 0 n,.nils,.nils,.int .i64 0,.bool false]]))::(s,b,.box (imC (adC m ⟨0,(cq:Int),0,k,bk.outer,bk.home,bk.self,List.replicate n zV,[],[],0,false⟩) (yX y (Enc.dec (p 16)))))::(y.1.2.1.1.1,y.1.2.1.1.2,.row 4 (nR cT m.base.codes y.1.2.1.2))::((Enc.dec (p 14):Nat×Nat).1,(Enc.dec (p 14):Nat×Nat).2,.row 3 ((List.replicate n zV).map (ab.tw 0)))::(s8,b8,_)::_) (by rw[show et _=[_] from rfl];(try simp only[ZC,ZK,Zt,ZF,Zx]);(try rfl)) ?_
 dsimp only [Nat.reduceAdd]
 generalize (Enc.dec (p 16):Nat)=bz
 generalize (Enc.dec (p 14):Nat×Nat)=ps
 repeat' refine W_ ?_
 refine gQ rows.length 10 3 (by decide) (gS _ _) rfl fun s1=>?_
 rw[gV]
 refine gQ rows.length 11 3 (by decide) (gS _ _) rfl fun s2=>?_
 rw[gV]
 dsimp only [List.set]
 refine aw x_ rfl (bz,ps,s1,s2) trivial rfl (.app _ R) ?_ (.tmp _ _ rfl) rfl
 dsimp only
 rw[hmk,hbc,hb.code]
 exact ah1 _ _ _ _ _ _ _ _ R
theorem mo (hst:ay G) (cc s b:Nat) (m:ad) (y:bJ) (rows:List (List TV)) (hrl:rows.length=m.contexts.length) (hcl:m.contexts.length<=1048600) (hzb:m.blocks.length<=1048576) (hzc:m.base.codes.length<=1048576) (hyc:y.1.2.1.2.length=m.base.codes.length) (l:List ag) (hll:l.length=m.processes.length) {np:Nat} (hnp:m.now=np) {pr:ag} (hpr:l[np]?=some pr) (v:ab) {q cq n:Nat} {bk:aq} {x:aB} (hb:zk m v q cq bk x n) (k:Int):CtM Tryz.prog G 139 [.cp cc [.mp s b 0,.nilp],.int .i64 v.number,.int .i64 k,.nils] [mX y rows,mB s b m y,mP y l,(y.2.2.1.1,y.2.2.1.2,.row 6 (m.blocks.map (aq.tw 0))),(y.1.2.1.1.1,y.1.2.1.1.2,.row 4 (nR cT m.base.codes y.1.2.1.2))] (fun _:Nat×(Nat×Nat)×Nat×Nat=>True) (fun u=>[mX (yX y u.1) (rows++[aM (gf m v k) (u.2.1,(u.2.2.1,0),(u.2.2.2,0))]),mB s b (adC m (gf m v k)) (yX y u.1),mP y (l.set np ⟨(m.contexts.length:Int),pr.main⟩),(u.2.1.1,u.2.1.2,.row 3 ((List.replicate n zV).map (ab.tw 0))),(u.2.2.1,0,.row 3 []),(u.2.2.2,0,.row 3 []),(y.2.2.1.1,y.2.2.1.2,.row 6 (m.blocks.map (aq.tw 0))),(y.1.2.1.1.1,y.1.2.1.1.2,.row 4 (nR cT m.base.codes y.1.2.1.2))]) (fun _=>.tup []):=by
 refine au Tryz.func139 rfl Tryz.ntmps139 rfl rfl rfl fun w0 R gs objsR hG hR=>?_
 obtain rfl:=hR.eq
 clear hR
 have hbc:=qf hst cc s b m y rows hrl hcl hzb hzc hyc v hb k
 have hsd:=fun bz=>abG hst cc s b (adC m (gf m v k)) (yX y bz) l hll hnp hpr (m.contexts.length:Int)
 rw[hb.num]
 generalize gf m v k=c at hbc hsd |-
 refine aR (objs':=mX y rows::mB s b m y::(y.2.2.1.1,y.2.2.1.2,.row 6 (m.blocks.map (aq.tw 0)))::(y.1.2.1.1.1,y.1.2.1.1.2,.row 4 (nR cT m.base.codes y.1.2.1.2))::mP y l::R) (ahc _ _ _ _ _ R) ?_
 repeat' (first|refine W_ ?_|((with_reducible apply aA);rfl;kernel_rfl;(repeat (first|exact az.nil|((with_reducible apply az.cons);rfl)));exact hG;exact hbc;exact .cons _ _ _ _ (.cons _ _ _ _ (.cons _ _ _ _ (.cons _ _ _ _ (.nil _))));rintro ⟨bz,ps,s1,s2⟩ -;refine bV (objs':=_::_::_::_::_::_::_::_::_) rfl ?_))
 refine ce (ah4 _ _ _ _ _ _ _ _ R) ?_
 repeat' (first|refine W_ ?_|((with_reducible apply aA);rfl;kernel_rfl;(repeat (first|exact az.nil|((with_reducible apply az.cons);rfl)));exact hG;exact hsd bz;exact .cons _ _ _ _ (.cons _ _ _ _ (.nil _));rintro ⟨⟩ -;refine fM ?_))
 exact aZ x_ rfl (bz,ps,s1,s2) trivial rfl (.app _ R) (ahf _ _ _ _ _ _ _ _ R) rfl
end
theorem ahS (b p x k:Nat×Nat×aV) (T:aG):bS (k::b::p::x::T) (b::p::x::k::T):=(.perm (by
 have h:=bA (n:=5) [[b],[p],[x],[k],T] [3,0,1,2,4] rfl (by decide)
 exact(show (k::b::p::x::T).Perm (b::p::x::k::T) from by simpa using h)))
theorem ah0 (k b p x:Nat×Nat×aV) (T:aG):bS (x::k::b::p::T) (k::b::p::x::T):=(.perm (by
 have h:=bA (n:=5) [[k],[b],[p],[x],T] [3,0,1,2,4] rfl (by decide)
 exact(show (x::k::b::p::T).Perm (k::b::p::x::T) from by simpa using h)))
section
variable {G:World->Prop}
theorem agV (hst:ay G) (cc s b:Nat) (m:ad) (y:bJ) (l:List ag) (hl1:l.length<=1048576) (hll:l.length=m.processes.length) {n:Nat} (hn:m.now=n) {pr:ag} (hp:l[n]?=some pr) {k:Nat} (hk:pr.at_=k) (rows:List (List TV)) (hrl:rows.length=m.contexts.length) (hkl:k<m.contexts.length) (c:ao) (p:Pl×Pl×Pl) (hkr:rows[k]?=some (aM c p)) (hcl:c.stack.length<=1048576) (v:ab):CtM Tryz.prog G 215 [.cp cc [.mp s b 0,.nilp],.agg [.int .i64 v.kind,.int .i64 v.number,.str v.text]] [mB s b m y,mP y l,mX y rows,(p.2.1.1,p.2.1.2,.row 3 (c.stack.map (ab.tw 0)))] (fun _:Nat=>True) (fun u=>[mX y (rows.set k (aM ⟨c.mark,c.code,c.pc,c.sender,c.outer,c.home,c.self,c.slots,c.stack++[v],c.values,c.other,c.retry⟩ (p.1,(p.2.1.1,u),p.2.2))),(p.2.1.1,u,.row 3 ((c.stack++[v]).map (ab.tw 0))),mB s b m y,mP y l]) (fun _=>.tup []):=by
 refine au Tryz.func215 rfl Tryz.ntmps215 rfl rfl rfl fun w0 R gs objsR hG hR=>?_
 obtain rfl:=hR.eq
 clear hR
 have hcx:=aa9 hst cc s b m y l hl1 hll hn hp hk rows hrl hkl
 have hls:(c.stack.map (ab.tw 0)).length=c.stack.length:=Zf _
 have hsn:c.stack.map (ab.tw 0)++[[.int .i64 v.kind,.int .i64 v.number,.str v.text]]=(c.stack++[v]).map (ab.tw 0):=by rw[YG];rfl
 have hmk:∀u:Nat×Nat,aM ⟨c.mark,c.code,c.pc,c.sender,c.outer,c.home,c.self,c.slots,c.stack++[v],c.values,c.other,c.retry⟩ (p.1,u,p.2.2)=[.int .i64 c.mark,.int .i64 c.code,.int .i64 c.pc,.int .i64 c.sender,.int .i64 c.outer,.int .i64 c.home,.int .i64 c.self.kind,.int .i64 c.self.number,.str c.self.text,.ms p.1.1 p.1.2 0 c.slots.length,.ms u.1 u.2 0 (c.stack.length+1),.ms p.2.2.1 p.2.2.2 0 c.values.length,.int .i64 c.other,.bool c.retry]:=fun u=>by simp[aM]
 have hrow:=hkr
 rw[show aM c p=[.int .i64 c.mark,.int .i64 c.code,.int .i64 c.pc,.int .i64 c.sender,.int .i64 c.outer,.int .i64 c.home,.int .i64 c.self.kind,.int .i64 c.self.number,.str c.self.text,.ms p.1.1 p.1.2 0 c.slots.length,.ms p.2.1.1 p.2.1.2 0 c.stack.length,.ms p.2.2.1 p.2.2.2 0 c.values.length,.int .i64 c.other,.bool c.retry] from rfl] at hrow
 refine aR (objs':=mB s b m y::mP y l::mX y rows::(p.2.1.1,p.2.1.2,.row 3 (c.stack.map (ab.tw 0)))::R) (cJ rfl) ?_
 repeat' (first|refine W_ ?_|refine aJ ?_|((with_reducible apply aA);rfl;kernel_rfl;(repeat (first|exact az.nil|((with_reducible apply az.cons);rfl)));exact hG;exact hcx;exact .cons _ _ _ _ (.cons _ _ _ _ (.cons _ _ _ _ (.nil _)));rintro ⟨⟩ -;refine pQ ?_))
 refine aR (ahS _ _ _ _ _) ?_
 unfold mX
 repeat' (first|refine W_ ?_|((with_reducible apply fm (id:=2) 10);kernel_rfl;kernel_rfl;kernel_rfl;rfl;(repeat (first|exact Cut.zero _|apply Cut.succ)))|((with_reducible apply m_q);exact ym_;rfl;exact ez)|((with_reducible apply cA);rfl;(intro p;try dsimp only);(repeat (first|exact TB.nil _|((with_reducible apply TB.cons);rfl;rfl;(first|exact .nil _|exact .put _ _ _ _ _ (.nil _)|exact .skip _ _ _ _ _ (.put _ _ _ _ _ (.nil _))|exact .skip _ _ _ _ _ (.skip _ _ _ _ _ (.put _ _ _ _ _ (.nil _)))|(repeat (first|exact .nil _|apply aW.put|apply aW.skip)));kernel_rfl)));rfl;kernel_rfl;kernel_rfl;exact ez)|((with_reducible apply jh);(intro p;rfl);rfl;kernel_rfl;kernel_rfl;rfl;kernel_rfl;rfl;(intro p;rfl);rfl;(intro p;rfl);exact ez)|((with_reducible apply kj);(intro p;rfl);(intro p;rfl);rfl;kernel_rfl;(intro p;rfl);exact hls;(intro p;show List.length _=1;rfl);omega;exact fun p=>hsn;exact⟨by decide,by decide⟩;exact im;rfl;(focus (simp;done)))|(with_reducible refine DM.nil _ _ _ ?_))
 intro q hq0
 clear hq0
 refine bV (objs':=(p.2.1.1,(q 7).b,.row 3 ((c.stack++[v]).map (ab.tw 0)))::mB s b m y::mP y l::(y.2.2.2.1.1.1,y.2.2.2.1.1.2,.row 14 rows)::R) (by rw[show et _=[_] from rfl];(try simp only[ZC,ZK,Zt,ZF,Zx]);(try rfl)) ?_
 dsimp only [Nat.reduceAdd]
 generalize Yu.b (q 7)=ub
 repeat' (first|refine W_ ?_|refine bD ?_)
 refine aZ x_ rfl ub trivial rfl (.app _ R) ?_ rfl
 (try dsimp only)
 rw[hmk]
 exact ah0 _ _ _ _ _
theorem ag4 (_hst:ay G) (cc s b:Nat) (m:ad) (y:bJ) (h0:m.ready=[]):CtM Tryz.prog G 264 [.cp cc [.mp s b 0,.nilp]] [mB s b m y] (fun _:Unit=>True) (fun _=>[mB s b (tB m 4 m.value) y]) (fun _=>.tup []):=by
 refine au Tryz.func264 rfl Tryz.ntmps264 rfl rfl rfl fun w0 R gs objsR hG hR=>?_
 obtain rfl:=hR.eq
 clear hR
 unfold mB imC
 rw[show m.ready.length=0 by rw[h0];rfl]
 refine aR (objs':=(s,b,_)::R) (cJ rfl) ?_
 repeat' (first|refine W_ ?_|refine ac ?_)
 refine aZ x_ rfl () trivial rfl (.app _ R) ?_ rfl
 dsimp only [tB]
 rw[show m.ready.length=0 by rw[h0];rfl]
 exact .refl _
theorem af8 (_hst:ay G) (cc s b:Nat) (m:ad) (y:bJ) (k:Int) (l:List Int) (h0:m.ready=k::l) (hl:m.ready.length<=1048576):CtM Tryz.prog G 264 [.cp cc [.mp s b 0,.nilp]] [mB s b m y,(y.2.2.2.2.2.1,y.2.2.2.2.2.2,.row 1 (aS m.ready))] (fun _:Nat×Nat=>True) (fun u=>[mB s b (nxI m k l) (yR y u),(u.1,u.2,.row 1 (aS l))]) (fun _=>.tup []):=by
 refine au Tryz.func264 rfl Tryz.ntmps264 rfl rfl rfl fun w0 R gs objsR hG hR=>?_
 obtain rfl:=hR.eq
 clear hR
 have hrl:=aj m.ready
 have hll:m.ready.length=l.length+1:=by rw[h0];rfl
 have hr0:(aS m.ready)[0]?=some [.int .i64 k]:=by rw[h0];rfl
 have hdr:(aS m.ready).drop 1=aS l:=by rw[h0];rfl
 have hrl2:=aj l
 unfold mB imC
 refine aR (objs':=(s,b,_)::(y.2.2.2.2.2.1,y.2.2.2.2.2.2,_)::R) (cJ rfl) ?_
 repeat' (first|refine W_ ?_|refine ac ?_|((with_reducible apply jn (n:=0));rfl;rfl;kernel_rfl;kernel_rfl;rfl;kernel_rfl;rfl;rfl;rfl;rfl;intro ss bb))
 refine oY (t:=30) rfl (by rw[hrl]) (by repeat (first|exact .head _|apply yQ.tail)) ?_
 repeat' (first|refine W_ ?_|refine ac ?_|refine acJ ?_|((with_reducible apply dN);rfl;rfl;rfl;kernel_rfl;(repeat (first|with_reducible exact mh|with_reducible refine mt ?_));(first|with_reducible assumption|exact aI _|exact aj _|exact aH _|exact Zf _|assumption|rfl);omega;(intro bq;(repeat (first|with_reducible exact Upd.head _|with_reducible apply Upd.tail)));intro bb))
 exact aZ x_ rfl (ss,bb) trivial rfl (.app _ R) (.perm (List.Perm.swap _ _ _)) rfl
theorem ahk (_hst:ay G) (cc s b:Nat) (m:ad) (y:bJ) (_hpl:m.processes.length<=1048576) {n:Nat} (hn:m.now=n) {p:ag} (hp:m.processes[n]?=some p) (hmn:p.main=true) (v:ab):CtM Tryz.prog G 216 [.cp cc [.mp s b 0,.nilp],.agg [.int .i64 v.kind,.int .i64 v.number,.str v.text]] [mB s b m y,mP y m.processes] (fun _:Unit=>True) (fun _=>[mB s b (tB m 1 v) y,mP y m.processes]) (fun _=>.tup []):=by
 refine au Tryz.func216 rfl Tryz.ntmps216 rfl rfl rfl fun w0 R gs objsR hG hR=>?_
 obtain rfl:=hR.eq
 clear hR
 have hrow:(m.processes.map (ag.tw 0))[n]?=some [.int .i64 p.at_,.bool true]:=by rw[Zj,hp,<- hmn];rfl
 have hl:n<m.processes.length:=(List.getElem?_eq_some_iff.1 hp).1
 have hrl:(m.processes.map (ag.tw 0)).length=m.processes.length:=Zf _
 unfold mB mP imC
 rw[hn]
 refine aR (objs':=(s,b,_)::(y.2.2.2.2.1.1,y.2.2.2.2.1.2,_)::R) (cJ rfl) ?_
 repeat' (first|refine W_ ?_|refine aJ ?_|((with_reducible apply dh (id:=3) 7);kernel_rfl;kernel_rfl;kernel_rfl;(repeat (first|exact Cut.zero _|apply Cut.succ)))|with_reducible refine dB (by kernel_rfl) (by kernel_rfl) ?_|with_reducible refine eV ?_|with_reducible refine dz ?_|with_reducible refine dC rfl ?_|refine eS rfl rfl rfl rr_ ?_|refine dx rfl rfl rfl rr_ rfl rfl rfl ?_|refine cG rfl rfl rfl rr_ rfl rfl ?_|(refine iH rfl rfl rfl rr_ dd_ ?_)|(refine ir rfl rfl rfl rr_ dd_ ?_)|(refine bX rfl rfl rfl rr_ (fun hg=>?_) (fun hg=>?_))|(refine bF rfl rfl rfl rr_ (fun hg=>?_) (fun hg=>?_))|((with_reducible apply d_y);exact y_;rfl)|refine ac ?_)
 refine aZ x_ rfl () trivial rfl (.app _ R) ?_ rfl
 dsimp only [tB]
 rw[hn]
 exact .refl _
theorem ahW (hst:ay G) (cc s b:Nat) (m:ad) (y:bJ) (_hpl:m.processes.length<=1048576) {n:Nat} (hn:m.now=n) {p:ag} (hp:m.processes[n]?=some p) (hmn:p.main=false) (h0:m.ready=[]) (v:ab):CtM Tryz.prog G 216 [.cp cc [.mp s b 0,.nilp],.agg [.int .i64 v.kind,.int .i64 v.number,.str v.text]] [mB s b m y,mP y m.processes] (fun _:Unit=>True) (fun _=>[mB s b (tB m 4 m.value) y,mP y m.processes]) (fun _=>.tup []):=by
 refine au Tryz.func216 rfl Tryz.ntmps216 rfl rfl rfl fun w0 R gs objsR hG hR=>?_
 obtain rfl:=hR.eq
 clear hR
 have hrow:(m.processes.map (ag.tw 0))[n]?=some [.int .i64 p.at_,.bool false]:=by rw[Zj,hp,<- hmn];rfl
 have hl:n<m.processes.length:=(List.getElem?_eq_some_iff.1 hp).1
 have hrl:(m.processes.map (ag.tw 0)).length=m.processes.length:=Zf _
 have hsw:=ag4 hst cc s b m y h0
 unfold mB imC at hsw
 unfold mB mP imC
 rw[hn] at hsw |-
 refine aR (objs':=(s,b,_)::(y.2.2.2.2.1.1,y.2.2.2.2.1.2,_)::R) (cJ rfl) ?_
 repeat' (first|refine V_ ?_|refine aJ ?_|((with_reducible apply aA);rfl;kernel_rfl;(repeat (first|exact az.nil|((with_reducible apply az.cons);rfl)));exact hG;exact hsw;exact .cons _ _ _ _ (.nil _);rintro ⟨⟩ -;refine bO ?_))
 exact aZ x_ rfl () trivial rfl (.app _ R) (.refl _) rfl
theorem ahr (hst:ay G) (cc s b:Nat) (m:ad) (y:bJ) (_hpl:m.processes.length<=1048576) {n:Nat} (hn:m.now=n) {p:ag} (hp:m.processes[n]?=some p) (hmn:p.main=false) (k:Int) (l:List Int) (h0:m.ready=k::l) (hlr:m.ready.length<=1048576) (v:ab):CtM Tryz.prog G 216 [.cp cc [.mp s b 0,.nilp],.agg [.int .i64 v.kind,.int .i64 v.number,.str v.text]] [mB s b m y,(y.2.2.2.2.2.1,y.2.2.2.2.2.2,.row 1 (aS m.ready)),mP y m.processes] (fun _:Nat×Nat=>True) (fun u=>[mB s b (nxI m k l) (yR y u),(u.1,u.2,.row 1 (aS l)),mP y m.processes]) (fun _=>.tup []):=by
 refine au Tryz.func216 rfl Tryz.ntmps216 rfl rfl rfl fun w0 R gs objsR hG hR=>?_
 obtain rfl:=hR.eq
 clear hR
 have hrow:(m.processes.map (ag.tw 0))[n]?=some [.int .i64 p.at_,.bool false]:=by rw[Zj,hp,<- hmn];rfl
 have hl:n<m.processes.length:=(List.getElem?_eq_some_iff.1 hp).1
 have hrl:(m.processes.map (ag.tw 0)).length=m.processes.length:=Zf _
 have hsw:=af8 hst cc s b m y k l h0 hlr
 unfold mB imC at hsw
 unfold mB mP imC
 rw[hn] at hsw |-
 refine aR (objs':=(s,b,_)::(y.2.2.2.2.2.1,y.2.2.2.2.2.2,_)::(y.2.2.2.2.1.1,y.2.2.2.2.1.2,_)::R) (cJ rfl) ?_
 repeat' (first|refine V_ ?_|refine aJ ?_|((with_reducible apply aA);rfl;kernel_rfl;(repeat (first|exact az.nil|((with_reducible apply az.cons);rfl)));exact hG;exact hsw;exact .cons _ _ _ _ (.cons _ _ _ _ (.nil _));intro u hu;refine fM ?_))
 exact aZ x_ rfl u trivial rfl (.app _ R) (.refl _) rfl
end
variable {G:World->Prop}
theorem adN (v b x o p bl cd rd:Nat×Nat×aV) (T:aG):bS (b::p::v::x::o::bl::cd::rd::T) (v::b::x::o::p::bl::cd::rd::T):=(.perm (by
 have h:=bA (n:=9) [[v],[b],[x],[o],[p],[bl],[cd],[rd],T] [1,4,0,2,3,5,6,7,8] rfl (by decide)
 exact(show (b::p::v::x::o::bl::cd::rd::T).Perm (v::b::x::o::p::bl::cd::rd::T) from by simpa using h)))
theorem adw (b p v x o bl cd rd:Nat×Nat×aV) (T:aG):bS (b::x::o::p::bl::cd::rd::T) (b::p::v::x::o::bl::cd::rd::T):=.trans (.sub (show List.Sublist (b::x::o::p::bl::cd::rd::T) (v::b::x::o::p::bl::cd::rd::T) from by
 have h:=Z1 ([v]) (b::x::o::p::bl::cd::rd::T)
 simpa using h)) (.perm (by
 have h:=bA (n:=9) [[b],[p],[v],[x],[o],[bl],[cd],[rd],T] [2,0,3,4,1,5,6,7,8] rfl (by decide)
 exact(show (v::b::x::o::p::bl::cd::rd::T).Perm (b::p::v::x::o::bl::cd::rd::T) from by simpa using h)))
theorem agY (v b x o p bl cd rd:Nat×Nat×aV) (T:aG):bS (b::rd::p::v::x::o::bl::cd::T) (v::b::x::o::p::bl::cd::rd::T):=(.perm (by
 have h:=bA (n:=9) [[v],[b],[x],[o],[p],[bl],[cd],[rd],T] [1,7,4,0,2,3,5,6,8] rfl (by decide)
 exact(show (b::rd::p::v::x::o::bl::cd::T).Perm (v::b::x::o::p::bl::cd::rd::T) from by simpa using h)))
theorem agG (b rd p v x o bl cd:Nat×Nat×aV) (T:aG):bS (b::x::o::p::bl::cd::rd::T) (b::rd::p::v::x::o::bl::cd::T):=.trans (.sub (show List.Sublist (b::x::o::p::bl::cd::rd::T) (v::b::x::o::p::bl::cd::rd::T) from by
 have h:=Z1 ([v]) (b::x::o::p::bl::cd::rd::T)
 simpa using h)) (.perm (by
 have h:=bA (n:=9) [[b],[rd],[p],[v],[x],[o],[bl],[cd],T] [3,0,4,5,2,6,7,1,8] rfl (by decide)
 exact(show (v::b::x::o::p::bl::cd::rd::T).Perm (b::rd::p::v::x::o::bl::cd::T) from by simpa using h)))
theorem ah3 (cb v b x o p bl cd rd sl sk vl:Nat×Nat×aV) (T:aG):bS (x::sk::b::p::v::o::bl::cd::rd::sl::vl::T) (cb::v::b::x::o::p::bl::cd::rd::sl::sk::vl::T):=.trans (.sub (show List.Sublist (x::sk::b::p::v::o::bl::cd::rd::sl::vl::T) (cb::x::sk::b::p::v::o::bl::cd::rd::sl::vl::T) from by
 have h:=Z1 ([cb]) (x::sk::b::p::v::o::bl::cd::rd::sl::vl::T)
 simpa using h)) (.perm (by
 have h:=bA (n:=13) [[cb],[v],[b],[x],[o],[p],[bl],[cd],[rd],[sl],[sk],[vl],T] [0,3,10,2,5,1,4,6,7,8,9,11,12] rfl (by decide)
 exact(show (cb::x::sk::b::p::v::o::bl::cd::rd::sl::vl::T).Perm (cb::v::b::x::o::p::bl::cd::rd::sl::sk::vl::T) from by simpa using h)))
theorem ahH (x sk sko b p v o bl cd rd sl vl:Nat×Nat×aV) (T:aG):bS (b::p::x::sk::o::bl::cd::rd::sl::vl::T) (x::sk::sko::b::p::v::o::bl::cd::rd::sl::vl::T):=.trans (.sub (show List.Sublist (b::p::x::sk::o::bl::cd::rd::sl::vl::T) (sko::v::b::p::x::sk::o::bl::cd::rd::sl::vl::T) from by
 have h:=Z1 (sko::[v]) (b::p::x::sk::o::bl::cd::rd::sl::vl::T)
 simpa using h)) (.perm (by
 have h:=bA (n:=13) [[x],[sk],[sko],[b],[p],[v],[o],[bl],[cd],[rd],[sl],[vl],T] [2,5,3,4,0,1,6,7,8,9,10,11,12] rfl (by decide)
 exact(show (sko::v::b::p::x::sk::o::bl::cd::rd::sl::vl::T).Perm (x::sk::sko::b::p::v::o::bl::cd::rd::sl::vl::T) from by simpa using h)))
theorem ac5 (lt cb v b x o p bl cd rd sl sk vl:Nat×Nat×aV) (T:aG):bS (x::b::cb::vl::p::bl::cd::lt::o::rd::sl::sk::T) (lt::cb::v::b::x::o::p::bl::cd::rd::sl::sk::vl::T):=.trans (.sub (show List.Sublist (x::b::cb::vl::p::bl::cd::lt::o::rd::sl::sk::T) (v::x::b::cb::vl::p::bl::cd::lt::o::rd::sl::sk::T) from by
 have h:=Z1 ([v]) (x::b::cb::vl::p::bl::cd::lt::o::rd::sl::sk::T)
 simpa using h)) (.perm (by
 have h:=bA (n:=14) [[lt],[cb],[v],[b],[x],[o],[p],[bl],[cd],[rd],[sl],[sk],[vl],T] [2,4,3,1,12,6,7,8,0,5,9,10,11,13] rfl (by decide)
 exact(show (v::x::b::cb::vl::p::bl::cd::lt::o::rd::sl::sk::T).Perm (lt::cb::v::b::x::o::p::bl::cd::rd::sl::sk::vl::T) from by simpa using h)))
theorem ada (x b s1 s2 cb vl p bl cd lt o rd sl sk:Nat×Nat×aV) (T:aG):bS (x::b::p::bl::cd::s1::s2::vl::lt::o::rd::sl::sk::T) (x::b::s1::s2::cb::vl::p::bl::cd::lt::o::rd::sl::sk::T):=.trans (.sub (show List.Sublist (x::b::p::bl::cd::s1::s2::vl::lt::o::rd::sl::sk::T) (cb::x::b::p::bl::cd::s1::s2::vl::lt::o::rd::sl::sk::T) from by
 have h:=Z1 ([cb]) (x::b::p::bl::cd::s1::s2::vl::lt::o::rd::sl::sk::T)
 simpa using h)) (.perm (by
 have h:=bA (n:=15) [[x],[b],[s1],[s2],[cb],[vl],[p],[bl],[cd],[lt],[o],[rd],[sl],[sk],T] [4,0,1,6,7,8,2,3,5,9,10,11,12,13,14] rfl (by decide)
 exact(show (cb::x::b::p::bl::cd::s1::s2::vl::lt::o::rd::sl::sk::T).Perm (x::b::s1::s2::cb::vl::p::bl::cd::lt::o::rd::sl::sk::T) from by simpa using h)))
theorem agw {NX E NO T:aG} {b p x sk o bl cd rd sl vl:Nat×Nat×aV} (h:NX.Perm ([sl,sk,vl]++E)):bS (b::x::o::p::bl::cd::rd::(NO++(NX++T))) (b::p::x::sk::o::bl::cd::rd::sl::vl::(NO++(E++T))):=.perm (by
 have h1:([b,x,o,p,bl,cd,rd]++(NO++(NX++T))).Perm ([b,x,o,p,bl,cd,rd]++(NO++(([sl,sk,vl]++E)++T))):=ZW _ (ZW _ (h.append_right T))
 have h2:=bA (n:=13) [[b],[p],[x],[sk],[o],[bl],[cd],[rd],[sl],[vl],NO,E,T] [0,2,4,1,5,6,7,10,8,3,9,11,12] rfl (by decide)
 have h3:([b,x,o,p,bl,cd,rd]++(NO++(([sl,sk,vl]++E)++T))).Perm (b::p::x::sk::o::bl::cd::rd::sl::vl::(NO++(E++T))):=by simpa using h2
 have h4:=h1.trans h3
 simpa using h4)
theorem ahG {NX E NO T:aG} {x b p ps s3 s4 bl cd s1 s2 vl lt o rd sl sk:Nat×Nat×aV} (h:NX.Perm ([sl,sk,vl]++E)):bS (b::x::o::p::bl::cd::rd::(NO++((NX++[s1,s2,lt,ps,s3,s4])++T))) (x::b::p::ps::s3::s4::bl::cd::s1::s2::vl::lt::o::rd::sl::sk::(NO++(E++T))):=.perm (by
 have h1:([b,x,o,p,bl,cd,rd]++(NO++((NX++[s1,s2,lt,ps,s3,s4])++T))).Perm ([b,x,o,p,bl,cd,rd]++(NO++((([sl,sk,vl]++E)++[s1,s2,lt,ps,s3,s4])++T))):=ZW _ (ZW _ ((h.append_right _).append_right T))
 have h2:=bA (n:=19) [[x],[b],[p],[ps],[s3],[s4],[bl],[cd],[s1],[s2],[vl],[lt],[o],[rd],[sl],[sk],NO,E,T] [1,0,12,2,6,7,13,16,14,15,10,17,8,9,11,3,4,5,18] rfl (by decide)
 have h3:([b,x,o,p,bl,cd,rd]++(NO++((([sl,sk,vl]++E)++[s1,s2,lt,ps,s3,s4])++T))).Perm (x::b::p::ps::s3::s4::bl::cd::s1::s2::vl::lt::o::rd::sl::sk::(NO++(E++T))):=by simpa using h2
 have h4:=h1.trans h3
 simpa using h4)
theorem sI {m:ad} {os:List ar} (hol:os.length=m.store.objects.length) (y:bJ) (R:aG) (s b:Nat) (hpx:y.2.2.2.1.2.length=m.contexts.length) (a d:ao) (p1 p2:Pl×Pl×Pl) (ps:List ag) (hps:ps.length=m.processes.length) {E:aG} {sl sk vl s1 s2 lt q1 q2 q3:Nat×Nat×aV} (hp6:(nOg bG m.contexts y.2.2.2.1.2).Perm ([sl,sk,vl]++E)) (ha:bG a p1=[s1,s2,lt]) (hd:bG d p2=[q1,q2,q3]) (u1 w1:Nat) :
   bS ((s,b,.box (imC (fb m os (m.contexts++[a,d]) ps) (y.1,y.2.1,y.2.2.1,((y.2.2.2.1.1.1,w1),y.2.2.2.1.2++[p1,p2]),y.2.2.2.2)))::(imO (fb m os (m.contexts++[a,d]) ps) (y.1,y.2.1,y.2.2.1,((y.2.2.2.1.1.1,w1),y.2.2.2.1.2++[p1,p2]),y.2.2.2.2)++R))
     (mX (yX (yX y u1) w1) ((nRg aM m.contexts y.2.2.2.1.2++[aM a p1])++[aM d p2])::(s,b,.box (imC (adC (adC m a) d) (yX (yX y u1) w1)))::mP y ps::q1::q2::q3::blR m y::cdR m y::s1::s2::vl::lt::mO y (nRg cf os y.2.1.2.1.2)::rdR m y::sl::sk::(nOg cI os y.2.1.2.1.2++(E++(kJ m y++R)))):=by
 have hbx:imC (fb m os (m.contexts++[a,d]) ps) (y.1,y.2.1,y.2.2.1,((y.2.2.2.1.1.1,w1),y.2.2.2.1.2++[p1,p2]),y.2.2.2.2)=imC (adC (adC m a) d) (yX (yX y u1) w1):=by
   refine(bg _ _).trans (.trans ?_ (bg _ _).symm)
   unfold adC fb yX
   dsimp only
   rw[hol,hps,Zh,Zh,Zh];rfl
 have h7:nRg aM (m.contexts++[a,d]) (y.2.2.2.1.2++[p1,p2])=(nRg aM m.contexts y.2.2.2.1.2++[aM a p1])++[aM d p2]:=by
   rw[ab1 aM hpx,ab1 aM (by rw[Zh,Zh,hpx];rfl)];simp
 have h8:nOg bG (m.contexts++[a,d]) (y.2.2.2.1.2++[p1,p2])=nOg bG m.contexts y.2.2.2.1.2++[s1,s2,lt,q1,q2,q3]:=by
   have h9:=acA bG (l:=m.contexts++[a]) (ps:=y.2.2.2.1.2++[p1]) (by rw[Zh,Zh,hpx];rfl) d p2
   rw[acA bG hpx,ha,hd] at h9
   simpa using h9
 have hpk:=cX (fb m os (m.contexts++[a,d]) ps) (y.1,y.2.1,y.2.2.1,((y.2.2.2.1.1.1,w1),y.2.2.2.1.2++[p1,p2]),y.2.2.2.2) (s,b,.box (imC (adC (adC m a) d) (yX (yX y u1) w1))) R
 rw[hbx]
 refine .trans hpk ?_
 change bS (_::mX (yX (yX y u1) w1) (nRg aM (m.contexts++[a,d]) (y.2.2.2.1.2++[p1,p2]))::_::_::_::_::_::(_++(nOg bG (m.contexts++[a,d]) (y.2.2.2.1.2++[p1,p2])++_))) _
 rw[h7,h8]
 exact ahG hp6
theorem af7 (hst:ay G) {m:ad} {np:Nat} {pr:ag} (F:MFa m np pr) (s b n:Nat) (ih:∀k,k<n->aic G m s b k):ahO G m s b n:=by
 intro os y r t v hol hy ht hgo
 refine au Tryz.func131 rfl Tryz.ntmps131 rfl rfl rfl fun w0 R gs objsR hG hR=>?_
 obtain rfl:=hR.eq
 clear hR
 have hcl:=F.big
 have hpx:y.2.2.2.1.2.length=m.contexts.length:=hy.2.2
 have hxl:(nRg aM m.contexts y.2.2.2.1.2).length=m.contexts.length:=eN _ hpx
 have hop:=pl (fb m os m.contexts m.processes) y (s,b,.box (imC m y)) R
 refine aR hop ?_
 clear hop
 change AW _ _ _ _ _ _ ((s,b,.box (imC m y))::mX y (nRg aM m.contexts y.2.2.2.1.2)::mO y (nRg cf os y.2.1.2.1.2)::mP y m.processes::blR m y::cdR m y::rdR m y::(nOg cI os y.2.1.2.1.2++(nOg bG m.contexts y.2.2.2.1.2++(kJ m y++R))))
 unfold mX mO mP blR cdR rdR
 rw[bg m y]
 repeat' (first|refine W_ ?_|((with_reducible apply o5);rfl;rfl;rfl;intro ss bb))
 generalize ss=sv;generalize bb=bv
 apply ap (X:=Nat×Int×ab) [0,4,1000000] (fun x=>[(2,.int .i64 x.2.1)])
   (fun x=>(sv,bv,.box [.int .i64 x.2.2.kind,.int .i64 x.2.2.number,.str x.2.2.text])::(s,b,.box (imC m y))::mX y (nRg aM m.contexts y.2.2.2.1.2)::mO y (nRg cf os y.2.1.2.1.2)::mP y m.processes::blR m y::cdR m y::rdR m y::(nOg cI os y.2.1.2.1.2++(nOg bG m.contexts y.2.2.2.1.2++(kJ m y++R))))
   (fun x=>x.1<=n/\x.2.1<m.contexts.length/\goF m x.1 os (.giv x.2.1 x.2.2)=some r) (fun x=>x.1) (n,t,v) ⟨Zg _,ht,hgo⟩
 exact kp_;exact nw_
 ·rw[bg m y];exact .refl _
 rintro ⟨k,u,w⟩ ⟨hk,hu,hg⟩
 dsimp only at hk hu hg |-
 cases k with
 | zero=>cases hg
 | succ k =>
 by_cases hneg:u<0
 ·simp only[goF,if_pos hneg,Zo] at hg
  subst hg
  have hpl:m.processes.length<=1048576:=F.small.2.2.2.2.1.1
  have hrl:m.ready.length<=1048576:=F.small.2.2.2.2.2.1
  have hnp:m.processes[m.now.toNat]?=some pr:=by rw[show m.now.toNat=np by rw[F.now];rfl];exact F.prc
  cases hmn:pr.main with
  | true =>
    have hM:acI m os (.fin w)=(⟨m.base,⟨m.store.classes,os,m.store.output,m.store.ticks,m.store.budget,m.store.made⟩,m.blocks,m.contexts,m.processes,m.ready,m.now,1,w,m.fault⟩:ad):=by unfold acI;rw[hnp];dsimp only;rw[if_pos hmn]
    have hen:=zM hst s b m y hpl F.now F.prc hmn w
    unfold mB mP at hen
    rw[show imC (tB m 1 w) y=imC ((⟨m.base,⟨m.store.classes,os,m.store.output,m.store.ticks,m.store.budget,m.store.made⟩,m.blocks,m.contexts,m.processes,m.ready,m.now,1,w,m.fault⟩:ad)) y by rw[bg,bg];unfold tB;dsimp only;rw[hol],bg m y] at hen
    refine aR (adN _ _ _ _ _ _ _ _ _) ?_
    repeat' (first|refine W_ ?_|((with_reducible apply aA);rfl;kernel_rfl;(repeat (first|exact az.nil|((with_reducible apply az.cons);rfl)));exact hG;exact hen;exact .cons _ _ _ _ (.cons _ _ _ _ (.nil _));rintro ⟨⟩ -;refine fM ?_))
    exact aZ x_ rfl y (by rw[hM];exact hy) rfl (.app _ R) (by rw[hM];exact .trans (cX _ y _ R) (adw _ _ _ _ _ _ _ _ _)) rfl
  | false =>
    cases hrd:m.ready with
    | nil =>
      have hM:acI m os (.fin w)=(⟨m.base,⟨m.store.classes,os,m.store.output,m.store.ticks,m.store.budget,m.store.made⟩,m.blocks,m.contexts,m.processes,m.ready,m.now,4,m.value,m.fault⟩:ad):=by unfold acI;rw[hnp];dsimp only;rw[if_neg (by rw[hmn];simp),hrd]
      have hen:=z6 hst s b m y hpl F.now F.prc hmn hrd w
      unfold mB mP at hen
      rw[show imC (tB m 4 m.value) y=imC ((⟨m.base,⟨m.store.classes,os,m.store.output,m.store.ticks,m.store.budget,m.store.made⟩,m.blocks,m.contexts,m.processes,m.ready,m.now,4,m.value,m.fault⟩:ad)) y by rw[bg,bg];unfold tB;dsimp only;rw[hol],bg m y] at hen
      refine aR (adN _ _ _ _ _ _ _ _ _) ?_
      repeat' (first|refine W_ ?_|((with_reducible apply aA);rfl;kernel_rfl;(repeat (first|exact az.nil|((with_reducible apply az.cons);rfl)));exact hG;exact hen;exact .cons _ _ _ _ (.cons _ _ _ _ (.nil _));rintro ⟨⟩ -;refine fM ?_))
      exact aZ x_ rfl y (by rw[hM];exact hy) rfl (.app _ R) (by rw[hM];exact .trans (cX _ y _ R) (adw _ _ _ _ _ _ _ _ _)) rfl
    | cons kn ln =>
      have hM:acI m os (.fin w)=(⟨m.base,⟨m.store.classes,os,m.store.output,m.store.ticks,m.store.budget,m.store.made⟩,m.blocks,m.contexts,m.processes,ln,kn,m.status,m.value,m.fault⟩:ad):=by unfold acI;rw[hnp];dsimp only;rw[if_neg (by rw[hmn];simp),hrd]
      have hen:=aaB hst s b m y hpl F.now F.prc hmn kn ln hrd hrl w
      unfold mB mP at hen
      rw[bg m y] at hen
      refine aR (agY _ _ _ _ _ _ _ _ _) ?_
      repeat' (first|refine W_ ?_|((with_reducible apply aA);rfl;kernel_rfl;(repeat (first|exact az.nil|((with_reducible apply az.cons);rfl)));exact hG;exact hen;exact .cons _ _ _ _ (.cons _ _ _ _ (.cons _ _ _ _ (.nil _)));rintro uu -;refine pQ ?_))
      exact aZ x_ rfl (yR y uu) (by rw[hM];exact hy) rfl (.app _ R) (by rw[hM,show imC (nxI m kn ln) (yR y uu)=imC ((⟨m.base,⟨m.store.classes,os,m.store.output,m.store.ticks,m.store.budget,m.store.made⟩,m.blocks,m.contexts,m.processes,ln,kn,m.status,m.value,m.fault⟩:ad)) (yR y uu) by rw[bg,bg];unfold nxI;dsimp only;rw[hol]];exact .trans (cX _ (yR y uu) _ R) (agG _ _ _ _ _ _ _ _ _)) rfl
 obtain⟨q,rfl⟩:∃q:Nat,u=q:=⟨u.toNat,by omega⟩
 have hq:q<m.contexts.length:=by omega
 have hsq:=F.send q hq
 have hmr:=F.mks.mrk q hq
 have hens:=F.mks.ens q hq
 have hhdo:=F.mks.hdo q hq
 have haft:=F.mks.aft q hq
 have hunw:=F.mks.unw q hq
 have hsz:=F.small.2.2.2.1.2 _ (Zb hq)
 obtain⟨p,E,hp1,hp2,hp3,hp4⟩:=gX aM bG m.contexts y.2.2.2.1.2 hpx hq
 have hcx:m.contexts[q]?=some m.contexts[q]:=Za hq
 simp only[goF,if_neg hneg,dF hq] at hg
 generalize hc:m.contexts[q]=c at hg hsq hmr hens hhdo haft hunw hp2 hp3 hcx hsz
 have hp6:(nOg bG m.contexts y.2.2.2.1.2).Perm ([(p.1.1,p.1.2,.row 3 (c.slots.map (ab.tw 0))),(p.2.1.1,p.2.1.2,.row 3 (c.stack.map (ab.tw 0))),(p.2.2.1,p.2.2.2,.row 3 (c.values.map (ab.tw 0)))]++E):=hp3
 have hrow:(nRg aM m.contexts y.2.2.2.1.2)[q]?=some [.int .i64 c.mark,.int .i64 c.code,.int .i64 c.pc,.int .i64 c.sender,.int .i64 c.outer,.int .i64 c.home,.int .i64 c.self.kind,.int .i64 c.self.number,.str c.self.text,.ms p.1.1 p.1.2 0 c.slots.length,.ms p.2.1.1 p.2.1.2 0 c.stack.length,.ms p.2.2.1 p.2.2.2 0 c.values.length,.int .i64 c.other,.bool c.retry]:=hp2
 refine aR (q8 hp6) ?_
 unfold mX mO mP blR cdR rdR
 rw[bg m y]
 by_cases e0:c.mark=0
 ·rw[if_pos e0] at hg
  simp only[Zo] at hg
  subst hg
  have hpl:m.processes.length<=1048576:=F.small.2.2.2.2.1.1
  have hnp:m.processes[m.now.toNat]?=some pr:=by rw[show m.now.toNat=np by rw[F.now];rfl];exact F.prc
  have hst2:stP m (q:Int)=m.processes.set np ⟨(q:Int),pr.main⟩:=by unfold stP;rw[hnp,show m.now.toNat=np by rw[F.now];rfl]
  have hM:acI m os (.put (q:Int).toNat w)=fb m os (m.contexts.set q ⟨c.mark,c.code,c.pc,c.sender,c.outer,c.home,c.self,c.slots,c.stack++[w],c.values,c.other,c.retry⟩) (m.processes.set np ⟨(q:Int),pr.main⟩):=by
    show acI m os (.put q w)=_
    unfold acI;dsimp only;rw[hcx];dsimp only;rw[hst2]
  have hpu:=adJ hst y (nRg aM m.contexts y.2.2.2.1.2) (by rw[hxl];omega) q c p hp2 hsz.2.2.1.1 w
  unfold mX at hpu
  repeat' (first|refine W_ ?_|(refine ak ?_;intro ss bb)|refine ac ?_|((with_reducible apply dh (id:=6) 7);kernel_rfl;kernel_rfl;kernel_rfl;(repeat (first|exact Cut.zero _|apply Cut.succ)))|with_reducible refine dB (by kernel_rfl) (by kernel_rfl) ?_|with_reducible refine eV ?_|with_reducible refine dz ?_|with_reducible refine dC rfl ?_|refine eS rfl rfl rfl rr_ ?_|refine dx rfl rfl rfl rr_ rfl rfl rfl ?_|refine cG rfl rfl rfl rr_ rfl rfl ?_|(refine iH rfl rfl rfl rr_ dd_ ?_)|(refine ir rfl rfl rfl rr_ dd_ ?_)|(refine bX rfl rfl rfl rr_ (fun hg=>?_) (fun hg=>?_))|(refine bF rfl rfl rfl rr_ (fun hg=>?_) (fun hg=>?_))|((with_reducible apply d_y);exact y_;rfl))
  refine ce (ah3 _ _ _ _ _ _ _ _ _ _ _ _ _) ?_
  repeat' (first|refine W_ ?_|((with_reducible apply aA);rfl;kernel_rfl;(repeat (first|exact az.nil|((with_reducible apply az.cons);rfl)));exact hG;exact hpu;exact .cons _ _ _ _ (.cons _ _ _ _ (.nil _));rintro uu -;refine pQ ?_))
  have hat:=aaL hst s b m y m.processes rfl F.now F.prc (q:Int)
  unfold mB mP at hat
  rw[bg m y] at hat
  refine ce (ahH _ _ _ _ _ _ _ _ _ _ _ _ _) ?_
  repeat' (first|refine W_ ?_|((with_reducible apply aA);rfl;kernel_rfl;(repeat (first|exact az.nil|((with_reducible apply az.cons);rfl)));exact hG;exact hat;exact .cons _ _ _ _ (.cons _ _ _ _ (.nil _));rintro ⟨⟩ -;refine fM ?_))
  obtain⟨h7,h8⟩:=hp4 ⟨c.mark,c.code,c.pc,c.sender,c.outer,c.home,c.self,c.slots,c.stack++[w],c.values,c.other,c.retry⟩ (p.1,uu,p.2.2)
  refine aZ x_ rfl (y.1,y.2.1,y.2.2.1,(y.2.2.2.1.1,y.2.2.2.1.2.set q (p.1,uu,p.2.2)),y.2.2.2.2) ?_ rfl (.app _ R) ?_ rfl
  ·rw[hM]
   exact⟨hy.1,hy.2.1,by
     show (y.2.2.2.1.2.set q _).length=(m.contexts.set q _).length
     rw[ZA,ZA];exact hpx⟩
  ·rw[hM]
   have hbx:imC (fb m os (m.contexts.set q ⟨c.mark,c.code,c.pc,c.sender,c.outer,c.home,c.self,c.slots,c.stack++[w],c.values,c.other,c.retry⟩) (m.processes.set np ⟨(q:Int),pr.main⟩)) (y.1,y.2.1,y.2.2.1,(y.2.2.2.1.1,y.2.2.2.1.2.set q (p.1,uu,p.2.2)),y.2.2.2.2)=imC m y:=by
     rw[bg m y]
     refine(bg _ _).trans ?_
     unfold fb;dsimp only;rw[hol,ZA,ZA]
   have hpk:=cX (fb m os (m.contexts.set q ⟨c.mark,c.code,c.pc,c.sender,c.outer,c.home,c.self,c.slots,c.stack++[w],c.values,c.other,c.retry⟩) (m.processes.set np ⟨(q:Int),pr.main⟩)) (y.1,y.2.1,y.2.2.1,(y.2.2.2.1.1,y.2.2.2.1.2.set q (p.1,uu,p.2.2)),y.2.2.2.2) (s,b,.box (imC m y)) R
   rw[hbx]
   refine .trans hpk ?_
   rw[bg m y]
   change bS (_::mX y (nRg aM (m.contexts.set q _) (y.2.2.2.1.2.set q (p.1,uu,p.2.2)))::_::_::_::_::_::(_++(nOg bG (m.contexts.set q _) (y.2.2.2.1.2.set q (p.1,uu,p.2.2))++_))) _
   rw[h7]
   exact agw h8
 rw[if_neg e0] at hg
 by_cases e1:c.mark=1
 ·rw[if_pos e1] at hg
  repeat' (first|refine W_ ?_|(refine ak ?_;intro ss bb)|refine ac ?_)
  refine ah (k,c.sender,w) ⟨by dsimp only;omega,by dsimp only;omega,hg⟩ (by dsimp only;omega) (.of _ nw_ od_ ?_)
  exact .drop (iC hp6)
 rw[if_neg e1] at hg
 by_cases e2:c.mark=2
 ·rw[if_pos e2] at hg
  simp only[Zo] at hg
  subst hg
  obtain⟨v0,hv0,hbk⟩:=hens e2
  have hwl:c.values.length=1:=by rw[hv0];rfl
  rw[show c.values.map (ab.tw 0)=[[.int .i64 v0.kind,.int .i64 v0.number,.str v0.text]] by rw[hv0];rfl]
  repeat' (first|refine W_ ?_|(refine ak ?_;intro ss bb)|refine ac ?_|((with_reducible apply jn);rfl;rfl;kernel_rfl;kernel_rfl;rfl;kernel_rfl;rfl;rfl;rfl;rfl;intro sl bl))
  have hmk:=uH hst s b m y (nRg aM m.contexts y.2.2.2.1.2) hxl (by omega) 4 c.sender w sl bl
  unfold mX mB at hmk
  rw[bg m y] at hmk
  refine ce (ac5 _ _ _ _ _ _ _ _ _ _ _ _ _ _) ?_
  repeat' (first|refine W_ ?_|((with_reducible apply aA);rfl;kernel_rfl;(repeat (first|exact az.nil|((with_reducible apply az.cons);rfl)));exact hG;exact hmk;exact .cons _ _ _ _ (.cons _ _ _ _ (.nil _));rintro ⟨u1,u2,u3⟩ -;refine pM ?_))
  refine ce (ada _ _ _ _ _ _ _ _ _ _ _ _ _ _ _) ?_
  obtain⟨q2,cq,bk,xc,n2,hb⟩:=kv.at_ (m:=adC m (ft 4 c.sender 0 false w)) (show kv m v0 from hbk)
  have hca:=pY hst s b (adC m (ft 4 c.sender 0 false w)) (yX y u1) (nRg aM m.contexts y.2.2.2.1.2++[aM (ft 4 c.sender 0 false w) ((u2,0),(u3,0),(sl,bl))]) (by rw[Zh,hxl];show _=(m.contexts++[_]).length;rw[Zh];rfl) (by show (m.contexts++[_]).length<=_;rw[Zh];show _+1<=_;omega) F.small.2.2.1.1 F.small.1.2.1.1 hy.1.2 m.processes rfl F.now F.prc v0 hb (m.contexts.length:Int)
  unfold mX mB mP at hca
  repeat' (first|refine W_ ?_|((with_reducible apply aA);rfl;kernel_rfl;(repeat (first|exact az.nil|((with_reducible apply az.cons);rfl)));exact hG;exact hca;exact .cons _ _ _ _ (.cons _ _ _ _ (.cons _ _ _ _ (.cons _ _ _ _ (.cons _ _ _ _ (.nil _)))));rintro ⟨w1,w2,w3,w4⟩ -;refine bV (objs':=_::_::_::_::_::_::_::_::_) rfl ?_))
  have hnp:m.processes[m.now.toNat]?=some pr:=by rw[show m.now.toNat=np by rw[F.now];rfl];exact F.prc
  have hst2:stP m ((m.contexts.length:Int)+1)=m.processes.set np ⟨(((m.contexts++[ft 4 c.sender 0 false w]).length:Nat):Int),pr.main⟩:=by unfold stP;rw[hnp,show m.now.toNat=np by rw[F.now];rfl,Zh];rfl
  have hM:acI m os (.aft (q:Int).toNat w)=fb m os (m.contexts++[ft 4 c.sender 0 false w,gf m v0 m.contexts.length]) (m.processes.set np ⟨(((m.contexts++[ft 4 c.sender 0 false w]).length:Nat):Int),pr.main⟩):=by
    show acI m os (.aft q w)=_
    unfold acI;dsimp only;rw[hcx];dsimp only;rw[hst2,show hdV c=v0 by unfold hdV;rw[hv0]]
  rw[show c.values.map (ab.tw 0)=[[.int .i64 v0.kind,.int .i64 v0.number,.str v0.text]] by rw[hv0];rfl] at hp6
  have hob:bG (gf m v0 m.contexts.length) (w2,(w3,0),(w4,0))=[(w2.1,w2.2,.row 3 ((List.replicate n2 zV).map (ab.tw 0))),(w3,0,.row 3 []),(w4,0,.row 3 [])]:=by
    rw[show gf m v0 m.contexts.length=gf (adC m (ft 4 c.sender 0 false w)) v0 m.contexts.length from rfl,hb.eq];rfl
  refine aZ x_ rfl (y.1,y.2.1,y.2.2.1,((y.2.2.2.1.1.1,w1),y.2.2.2.1.2++([((u2,0),(u3,0),(sl,bl)),(w2,(w3,0),(w4,0))]:List (Pl×Pl×Pl))),y.2.2.2.2) ?_ rfl (.app _ R) ?_ rfl
  ·rw[hM]
   exact⟨hy.1,hy.2.1,by
     show (y.2.2.2.1.2++_).length=(m.contexts++_).length
     rw[Zh,Zh,hpx];rfl⟩
  ·rw[hM]
   exact sI hol y R s b hpx (ft 4 c.sender 0 false w) (gf m v0 m.contexts.length) ((u2,0),(u3,0),(sl,bl)) (w2,(w3,0),(w4,0)) _ (ZA ..) hp6 rfl hob u1 w1
 rw[if_neg e2] at hg
 by_cases e3:c.mark=3
 ·rw[if_pos e3] at hg
  obtain⟨u,hu2,hu3⟩:=hhdo e3
  have hul:u<m.contexts.length:=by omega
  rw[hu2,dF hul] at hg
  dsimp only at hg
  have hsu:=F.send u hul
  have hrow2:∃p2,(nRg aM m.contexts y.2.2.2.1.2)[u]?=some (aM m.contexts[u] p2):=⟨_,kA aM (Za hul) (Za (by rw[hpx];exact hul))⟩
  obtain⟨p2,hrow2⟩:=hrow2
  generalize m.contexts[u]=d at hg hsu hrow2
  unfold aM at hrow2
  have hlv:=ih k (by omega) os y r (q:Int) d.sender w false hol hy (by omega) (by omega) hg
  rw[hu2] at hrow
  rw[bg m y] at hlv
  repeat' (first|refine W_ ?_|(refine ak ?_;intro ss bb)|refine ac ?_|((with_reducible apply dh (id:=14) 12);kernel_rfl;kernel_rfl;kernel_rfl;(repeat (first|exact Cut.zero _|apply Cut.succ)))|with_reducible refine dB (by kernel_rfl) (by kernel_rfl) ?_|with_reducible refine eV ?_|with_reducible refine dz ?_|with_reducible refine dC rfl ?_|refine eS rfl rfl rfl rr_ ?_|refine dx rfl rfl rfl rr_ rfl rfl rfl ?_|refine cG rfl rfl rfl rr_ rfl rfl ?_|(refine iH rfl rfl rfl rr_ dd_ ?_)|(refine ir rfl rfl rfl rr_ dd_ ?_)|(refine bX rfl rfl rfl rr_ (fun hg=>?_) (fun hg=>?_))|(refine bF rfl rfl rfl rr_ (fun hg=>?_) (fun hg=>?_))|((with_reducible apply d_y);exact y_;rfl))
  refine ce (.drop (bS.trans (.drop (cX (fb m os m.contexts m.processes) y _ R)) (iC hp6))) ?_
  repeat' (first|refine W_ ?_|((with_reducible apply aA);rfl;kernel_rfl;(repeat (first|exact az.nil|((with_reducible apply az.cons);rfl)));exact hG;exact hlv;exact .app _ _;intro y' hy';refine bV (objs':=_::_) rfl ?_))
  exact aZ x_ rfl y' hy' rfl (.app _ R) (.refl _) rfl
 rw[if_neg e3] at hg
 by_cases e4:c.mark=4
 ·rw[if_pos e4] at hg
  obtain⟨w2,hw2⟩:=haft e4
  rw[hw2] at hg
  dsimp only at hg
  have hwl:c.values.length=1:=by rw[hw2];rfl
  rw[show c.values.map (ab.tw 0)=[[.int .i64 w2.kind,.int .i64 w2.number,.str w2.text]] by rw[hw2];rfl]
  repeat' (first|refine W_ ?_|(refine ak ?_;intro ss bb)|refine ac ?_)
  refine ah (k,c.sender,w2) ⟨by dsimp only;omega,by dsimp only;omega,hg⟩ (by dsimp only;omega) (.of _ nw_ od_ ?_)
  rw[show c.values.map (ab.tw 0)=[[.int .i64 w2.kind,.int .i64 w2.number,.str w2.text]] by rw[hw2];rfl] at hp6
  exact .drop (iC hp6)
 rw[if_neg e4] at hg
 have e5:c.mark=5:=by omega
 rw[if_pos e5] at hg
 obtain⟨⟨w2,hw2⟩,⟨ho1,ho2⟩,_⟩:=hunw e5
 rw[hw2] at hg
 dsimp only at hg
 have hwl:c.values.length=1:=by rw[hw2];rfl
 have hlv:=ih k (by omega) os y r c.sender c.other w2 c.retry hol hy (by omega) (by omega) hg
 rw[bg m y] at hlv
 rw[show c.values.map (ab.tw 0)=[[.int .i64 w2.kind,.int .i64 w2.number,.str w2.text]] by rw[hw2];rfl] at hp6 |-
 repeat' (first|refine W_ ?_|(refine ak ?_;intro ss bb)|refine ac ?_|((with_reducible apply dh (id:=4) 11);kernel_rfl;kernel_rfl;kernel_rfl;(repeat (first|exact Cut.zero _|apply Cut.succ)))|with_reducible refine dB (by kernel_rfl) (by kernel_rfl) ?_|with_reducible refine eV ?_|with_reducible refine dz ?_|with_reducible refine dC rfl ?_|refine eS rfl rfl rfl rr_ ?_|refine dx rfl rfl rfl rr_ rfl rfl rfl ?_|refine cG rfl rfl rfl rr_ rfl rfl ?_|(refine iH rfl rfl rfl rr_ dd_ ?_)|(refine ir rfl rfl rfl rr_ dd_ ?_)|(refine bX rfl rfl rfl rr_ (fun hg=>?_) (fun hg=>?_))|(refine bF rfl rfl rfl rr_ (fun hg=>?_) (fun hg=>?_))|((with_reducible apply d_y);exact y_;rfl))
 refine ce (.drop (bS.trans (.drop (cX (fb m os m.contexts m.processes) y _ R)) (iC hp6))) ?_
 repeat' (first|refine W_ ?_|((with_reducible apply aA);rfl;kernel_rfl;(repeat (first|exact az.nil|((with_reducible apply az.cons);rfl)));exact hG;exact hlv;exact .app _ _;intro y' hy';refine bV (objs':=_::_) rfl ?_))
 exact aZ x_ rfl y' hy' rfl (.app _ R) (.refl _) rfl
theorem aho (cb v b x o p bl cd rd sl sk vl:Nat×Nat×aV) (T:aG):bS (b::p::x::sk::v::o::bl::cd::rd::sl::vl::T) (cb::v::b::x::o::p::bl::cd::rd::sl::sk::vl::T):=.trans (.sub (show List.Sublist (b::p::x::sk::v::o::bl::cd::rd::sl::vl::T) (cb::b::p::x::sk::v::o::bl::cd::rd::sl::vl::T) from by
 have h:=Z1 ([cb]) (b::p::x::sk::v::o::bl::cd::rd::sl::vl::T)
 simpa using h)) (.perm (by
 have h:=bA (n:=13) [[cb],[v],[b],[x],[o],[p],[bl],[cd],[rd],[sl],[sk],[vl],T] [0,2,5,3,10,1,4,6,7,8,9,11,12] rfl (by decide)
 exact(show (cb::b::p::x::sk::v::o::bl::cd::rd::sl::vl::T).Perm (cb::v::b::x::o::p::bl::cd::rd::sl::sk::vl::T) from by simpa using h)))
theorem ahJ (x sk b p v o bl cd rd sl vl:Nat×Nat×aV) (T:aG):bS (b::p::x::sk::o::bl::cd::rd::sl::vl::T) (x::sk::b::p::v::o::bl::cd::rd::sl::vl::T):=.trans (.sub (show List.Sublist (b::p::x::sk::o::bl::cd::rd::sl::vl::T) (v::b::p::x::sk::o::bl::cd::rd::sl::vl::T) from by
 have h:=Z1 ([v]) (b::p::x::sk::o::bl::cd::rd::sl::vl::T)
 simpa using h)) (.perm (by
 have h:=bA (n:=12) [[x],[sk],[b],[p],[v],[o],[bl],[cd],[rd],[sl],[vl],T] [4,2,3,0,1,5,6,7,8,9,10,11] rfl (by decide)
 exact(show (v::b::p::x::sk::o::bl::cd::rd::sl::vl::T).Perm (x::sk::b::p::v::o::bl::cd::rd::sl::vl::T) from by simpa using h)))
variable {G:World->Prop}
def ae1 (G:World->Prop) (m:ad) (cc s b n:Nat):Prop:=∀(os:List ar) (y:bJ) (r:List ar×Ac) (t:Int) (v:ab),os.length=m.store.objects.length->imI (fb m os m.contexts m.processes) y->t<m.contexts.length->goF m n os (.giv t v)=some r->CtM Tryz.prog G 140 [.cp cc [.mp s b 0,.nilp],.int .i64 t,.agg [.int .i64 v.kind,.int .i64 v.number,.str v.text]] ((s,b,.box (imC m y))::imO (fb m os m.contexts m.processes) y) (fun y'=>imI (acI m r.1 r.2) y') (fun y'=>(s,b,.box (imC (acI m r.1 r.2) y'))::imO (acI m r.1 r.2) y') (fun _=>.tup [])
def afJ (G:World->Prop) (m:ad) (cc s b n:Nat):Prop:=∀(os:List ar) (y:bJ) (r:List ar×Ac) (i wo:Int) (v:ab) (rr:Bool),os.length=m.store.objects.length->imI (fb m os m.contexts m.processes) y->i<m.contexts.length->wo<m.contexts.length->goF m n os (.lea i wo v rr)=some r->CtM Tryz.prog G 52 [.cp cc [.mp s b 0,.nilp],.int .i64 i,.int .i64 wo,.agg [.int .i64 v.kind,.int .i64 v.number,.str v.text],.bool rr] ((s,b,.box (imC m y))::imO (fb m os m.contexts m.processes) y) (fun y'=>imI (acI m r.1 r.2) y') (fun y'=>(s,b,.box (imC (acI m r.1 r.2) y'))::imO (acI m r.1 r.2) y') (fun _=>.tup [])
theorem afH (hst:ay G) {m:ad} {np:Nat} {pr:ag} (F:MFa m np pr) (cc s b n:Nat) (ih:∀k,k<n->afJ G m cc s b k):ae1 G m cc s b n:=by
 intro os y r t v hol hy ht hgo
 refine au Tryz.func140 rfl Tryz.ntmps140 rfl rfl rfl fun w0 R gs objsR hG hR=>?_
 obtain rfl:=hR.eq
 clear hR
 have hcl:=F.big
 have hpx:y.2.2.2.1.2.length=m.contexts.length:=hy.2.2
 have hxl:(nRg aM m.contexts y.2.2.2.1.2).length=m.contexts.length:=eN _ hpx
 have hop:=pl (fb m os m.contexts m.processes) y (s,b,.box (imC m y)) R
 refine aR hop ?_
 clear hop
 change AW _ _ _ _ _ _ ((s,b,.box (imC m y))::mX y (nRg aM m.contexts y.2.2.2.1.2)::mO y (nRg cf os y.2.1.2.1.2)::mP y m.processes::blR m y::cdR m y::rdR m y::(nOg cI os y.2.1.2.1.2++(nOg bG m.contexts y.2.2.2.1.2++(kJ m y++R))))
 unfold mX mO mP blR cdR rdR
 rw[bg m y]
 repeat' (first|refine W_ ?_|((with_reducible apply o5);rfl;rfl;rfl;intro ss bb))
 generalize ss=sv;generalize bb=bv
 apply ap (X:=Nat×Int×ab) [0,5,1000000] (fun x=>[(1,.int .i64 x.2.1)])
   (fun x=>(sv,bv,.box [.int .i64 x.2.2.kind,.int .i64 x.2.2.number,.str x.2.2.text])::(s,b,.box (imC m y))::mX y (nRg aM m.contexts y.2.2.2.1.2)::mO y (nRg cf os y.2.1.2.1.2)::mP y m.processes::blR m y::cdR m y::rdR m y::(nOg cI os y.2.1.2.1.2++(nOg bG m.contexts y.2.2.2.1.2++(kJ m y++R))))
   (fun x=>x.1<=n/\x.2.1<m.contexts.length/\goF m x.1 os (.giv x.2.1 x.2.2)=some r) (fun x=>x.1) (n,t,v) ⟨Zg _,ht,hgo⟩
 exact kp_;exact nw_
 ·rw[bg m y];exact .refl _
 rintro ⟨k,u,w⟩ ⟨hk,hu,hg⟩
 dsimp only at hk hu hg |-
 cases k with
 | zero=>cases hg
 | succ k =>
 by_cases hneg:u<0
 ·simp only[goF,if_pos hneg,Zo] at hg
  subst hg
  have hpl:m.processes.length<=1048576:=F.small.2.2.2.2.1.1
  have hrl:m.ready.length<=1048576:=F.small.2.2.2.2.2.1
  have hnp:m.processes[m.now.toNat]?=some pr:=by rw[show m.now.toNat=np by rw[F.now];rfl];exact F.prc
  cases hmn:pr.main with
  | true =>
    have hM:acI m os (.fin w)=(⟨m.base,⟨m.store.classes,os,m.store.output,m.store.ticks,m.store.budget,m.store.made⟩,m.blocks,m.contexts,m.processes,m.ready,m.now,1,w,m.fault⟩:ad):=by unfold acI;rw[hnp];dsimp only;rw[if_pos hmn]
    have hen:=ahk hst cc s b m y hpl F.now F.prc hmn w
    unfold mB mP at hen
    rw[show imC (tB m 1 w) y=imC ((⟨m.base,⟨m.store.classes,os,m.store.output,m.store.ticks,m.store.budget,m.store.made⟩,m.blocks,m.contexts,m.processes,m.ready,m.now,1,w,m.fault⟩:ad)) y by rw[bg,bg];unfold tB;dsimp only;rw[hol],bg m y] at hen
    refine aR (adN _ _ _ _ _ _ _ _ _) ?_
    repeat' (first|refine W_ ?_|((with_reducible apply aA);rfl;kernel_rfl;(repeat (first|exact az.nil|((with_reducible apply az.cons);rfl)));exact hG;exact hen;exact .cons _ _ _ _ (.cons _ _ _ _ (.nil _));rintro ⟨⟩ -;refine fM ?_))
    exact aZ x_ rfl y (by rw[hM];exact hy) rfl (.app _ R) (by rw[hM];exact .trans (cX _ y _ R) (adw _ _ _ _ _ _ _ _ _)) rfl
  | false =>
    cases hrd:m.ready with
    | nil =>
      have hM:acI m os (.fin w)=(⟨m.base,⟨m.store.classes,os,m.store.output,m.store.ticks,m.store.budget,m.store.made⟩,m.blocks,m.contexts,m.processes,m.ready,m.now,4,m.value,m.fault⟩:ad):=by unfold acI;rw[hnp];dsimp only;rw[if_neg (by rw[hmn];simp),hrd]
      have hen:=ahW hst cc s b m y hpl F.now F.prc hmn hrd w
      unfold mB mP at hen
      rw[show imC (tB m 4 m.value) y=imC ((⟨m.base,⟨m.store.classes,os,m.store.output,m.store.ticks,m.store.budget,m.store.made⟩,m.blocks,m.contexts,m.processes,m.ready,m.now,4,m.value,m.fault⟩:ad)) y by rw[bg,bg];unfold tB;dsimp only;rw[hol],bg m y] at hen
      refine aR (adN _ _ _ _ _ _ _ _ _) ?_
      repeat' (first|refine W_ ?_|((with_reducible apply aA);rfl;kernel_rfl;(repeat (first|exact az.nil|((with_reducible apply az.cons);rfl)));exact hG;exact hen;exact .cons _ _ _ _ (.cons _ _ _ _ (.nil _));rintro ⟨⟩ -;refine fM ?_))
      exact aZ x_ rfl y (by rw[hM];exact hy) rfl (.app _ R) (by rw[hM];exact .trans (cX _ y _ R) (adw _ _ _ _ _ _ _ _ _)) rfl
    | cons kn ln =>
      have hM:acI m os (.fin w)=(⟨m.base,⟨m.store.classes,os,m.store.output,m.store.ticks,m.store.budget,m.store.made⟩,m.blocks,m.contexts,m.processes,ln,kn,m.status,m.value,m.fault⟩:ad):=by unfold acI;rw[hnp];dsimp only;rw[if_neg (by rw[hmn];simp),hrd]
      have hen:=ahr hst cc s b m y hpl F.now F.prc hmn kn ln hrd hrl w
      unfold mB mP at hen
      rw[bg m y] at hen
      refine aR (agY _ _ _ _ _ _ _ _ _) ?_
      repeat' (first|refine W_ ?_|((with_reducible apply aA);rfl;kernel_rfl;(repeat (first|exact az.nil|((with_reducible apply az.cons);rfl)));exact hG;exact hen;exact .cons _ _ _ _ (.cons _ _ _ _ (.cons _ _ _ _ (.nil _)));rintro uu -;refine pQ ?_))
      exact aZ x_ rfl (yR y uu) (by rw[hM];exact hy) rfl (.app _ R) (by rw[hM,show imC (nxI m kn ln) (yR y uu)=imC ((⟨m.base,⟨m.store.classes,os,m.store.output,m.store.ticks,m.store.budget,m.store.made⟩,m.blocks,m.contexts,m.processes,ln,kn,m.status,m.value,m.fault⟩:ad)) (yR y uu) by rw[bg,bg];unfold nxI;dsimp only;rw[hol]];exact .trans (cX _ (yR y uu) _ R) (agG _ _ _ _ _ _ _ _ _)) rfl
 obtain⟨q,rfl⟩:∃q:Nat,u=q:=⟨u.toNat,by omega⟩
 have hq:q<m.contexts.length:=by omega
 have hsq:=F.send q hq
 have hmr:=F.mks.mrk q hq
 have hens:=F.mks.ens q hq
 have hhdo:=F.mks.hdo q hq
 have haft:=F.mks.aft q hq
 have hunw:=F.mks.unw q hq
 have hsz:=F.small.2.2.2.1.2 _ (Zb hq)
 obtain⟨p,E,hp1,hp2,hp3,hp4⟩:=gX aM bG m.contexts y.2.2.2.1.2 hpx hq
 have hcx:m.contexts[q]?=some m.contexts[q]:=Za hq
 simp only[goF,if_neg hneg,dF hq] at hg
 generalize hc:m.contexts[q]=c at hg hsq hmr hens hhdo haft hunw hp2 hp3 hcx hsz
 have hp6:(nOg bG m.contexts y.2.2.2.1.2).Perm ([(p.1.1,p.1.2,.row 3 (c.slots.map (ab.tw 0))),(p.2.1.1,p.2.1.2,.row 3 (c.stack.map (ab.tw 0))),(p.2.2.1,p.2.2.2,.row 3 (c.values.map (ab.tw 0)))]++E):=hp3
 have hrow:(nRg aM m.contexts y.2.2.2.1.2)[q]?=some [.int .i64 c.mark,.int .i64 c.code,.int .i64 c.pc,.int .i64 c.sender,.int .i64 c.outer,.int .i64 c.home,.int .i64 c.self.kind,.int .i64 c.self.number,.str c.self.text,.ms p.1.1 p.1.2 0 c.slots.length,.ms p.2.1.1 p.2.1.2 0 c.stack.length,.ms p.2.2.1 p.2.2.2 0 c.values.length,.int .i64 c.other,.bool c.retry]:=hp2
 refine aR (q8 hp6) ?_
 unfold mX mO mP blR cdR rdR
 rw[bg m y]
 by_cases e0:c.mark=0
 ·rw[if_pos e0] at hg
  simp only[Zo] at hg
  subst hg
  have hpl:m.processes.length<=1048576:=F.small.2.2.2.2.1.1
  have hnp:m.processes[m.now.toNat]?=some pr:=by rw[show m.now.toNat=np by rw[F.now];rfl];exact F.prc
  have hst2:stP m (q:Int)=m.processes.set np ⟨(q:Int),pr.main⟩:=by unfold stP;rw[hnp,show m.now.toNat=np by rw[F.now];rfl]
  have hM:acI m os (.put (q:Int).toNat w)=fb m os (m.contexts.set q ⟨c.mark,c.code,c.pc,c.sender,c.outer,c.home,c.self,c.slots,c.stack++[w],c.values,c.other,c.retry⟩) (m.processes.set np ⟨(q:Int),pr.main⟩):=by
    show acI m os (.put q w)=_
    unfold acI;dsimp only;rw[hcx];dsimp only;rw[hst2]
  have hqs:(m.processes.set np ⟨(q:Int),pr.main⟩)[np]?=some ⟨(q:Int),pr.main⟩:=ZN (List.getElem?_eq_some_iff.1 F.prc).1
  have hpu:=agV hst cc s b m y (m.processes.set np ⟨(q:Int),pr.main⟩) (by rw[ZA];exact hpl) (ZA ..) F.now hqs (k:=q) rfl (nRg aM m.contexts y.2.2.2.1.2) hxl hq c p hp2 hsz.2.2.1.1 w
  have hat:=abG hst cc s b m y m.processes rfl F.now F.prc (q:Int)
  unfold mB mP at hat
  unfold mB mP mX at hpu
  rw[bg m y] at hat hpu
  repeat' (first|refine W_ ?_|(refine ak ?_;intro ss bb)|refine ac ?_)
  refine ce (aho _ _ _ _ _ _ _ _ _ _ _ _ _) ?_
  repeat' (first|refine W_ ?_|((with_reducible apply aA);rfl;kernel_rfl;(repeat (first|exact az.nil|((with_reducible apply az.cons);rfl)));exact hG;exact hat;exact .cons _ _ _ _ (.cons _ _ _ _ (.nil _));rintro ⟨⟩ -;refine fM ?_)|((with_reducible apply aA);rfl;kernel_rfl;(repeat (first|exact az.nil|((with_reducible apply az.cons);rfl)));exact hG;exact hpu;exact .cons _ _ _ _ (.cons _ _ _ _ (.cons _ _ _ _ (.cons _ _ _ _ (.nil _))));rintro ub -;refine pM ?_))
  obtain⟨uu,huu⟩:∃uu:Pl,uu=(p.2.1.1,ub):=⟨_,rfl⟩
  rw[<- huu]
  rw[show ub=uu.2 by rw[huu],show p.2.1.1=uu.1 by rw[huu]]
  obtain⟨h7,h8⟩:=hp4 ⟨c.mark,c.code,c.pc,c.sender,c.outer,c.home,c.self,c.slots,c.stack++[w],c.values,c.other,c.retry⟩ (p.1,uu,p.2.2)
  refine aZ x_ rfl (y.1,y.2.1,y.2.2.1,(y.2.2.2.1.1,y.2.2.2.1.2.set q (p.1,uu,p.2.2)),y.2.2.2.2) ?_ rfl (.app _ R) ?_ rfl
  ·rw[hM]
   exact⟨hy.1,hy.2.1,by
     show (y.2.2.2.1.2.set q _).length=(m.contexts.set q _).length
     rw[ZA,ZA];exact hpx⟩
  ·rw[hM]
   have hbx:imC (fb m os (m.contexts.set q ⟨c.mark,c.code,c.pc,c.sender,c.outer,c.home,c.self,c.slots,c.stack++[w],c.values,c.other,c.retry⟩) (m.processes.set np ⟨(q:Int),pr.main⟩)) (y.1,y.2.1,y.2.2.1,(y.2.2.2.1.1,y.2.2.2.1.2.set q (p.1,uu,p.2.2)),y.2.2.2.2)=imC m y:=by
     rw[bg m y]
     refine(bg _ _).trans ?_
     unfold fb;dsimp only;rw[hol,ZA,ZA]
   have hpk:=cX (fb m os (m.contexts.set q ⟨c.mark,c.code,c.pc,c.sender,c.outer,c.home,c.self,c.slots,c.stack++[w],c.values,c.other,c.retry⟩) (m.processes.set np ⟨(q:Int),pr.main⟩)) (y.1,y.2.1,y.2.2.1,(y.2.2.2.1.1,y.2.2.2.1.2.set q (p.1,uu,p.2.2)),y.2.2.2.2) (s,b,.box (imC m y)) R
   rw[hbx]
   refine .trans hpk ?_
   rw[bg m y]
   change bS (_::mX y (nRg aM (m.contexts.set q _) (y.2.2.2.1.2.set q (p.1,uu,p.2.2)))::_::_::_::_::_::(_++(nOg bG (m.contexts.set q _) (y.2.2.2.1.2.set q (p.1,uu,p.2.2))++_))) _
   rw[h7]
   exact .trans (agw h8) (ahJ _ _ _ _ _ _ _ _ _ _ _ _)
 rw[if_neg e0] at hg
 by_cases e1:c.mark=1
 ·rw[if_pos e1] at hg
  repeat' (first|refine W_ ?_|(refine ak ?_;intro ss bb)|refine ac ?_)
  refine ah (k,c.sender,w) ⟨by dsimp only;omega,by dsimp only;omega,hg⟩ (by dsimp only;omega) (.of _ nw_ od_ ?_)
  exact .drop (iC hp6)
 rw[if_neg e1] at hg
 by_cases e2:c.mark=2
 ·rw[if_pos e2] at hg
  simp only[Zo] at hg
  subst hg
  obtain⟨v0,hv0,hbk⟩:=hens e2
  have hwl:c.values.length=1:=by rw[hv0];rfl
  rw[show c.values.map (ab.tw 0)=[[.int .i64 v0.kind,.int .i64 v0.number,.str v0.text]] by rw[hv0];rfl]
  repeat' (first|refine W_ ?_|(refine ak ?_;intro ss bb)|refine ac ?_|((with_reducible apply jn);rfl;rfl;kernel_rfl;kernel_rfl;rfl;kernel_rfl;rfl;rfl;rfl;rfl;intro sl bl))
  have hmk:=ad9 hst cc s b m y (nRg aM m.contexts y.2.2.2.1.2) hxl (by omega) 4 c.sender 0 w sl bl
  unfold mX mB at hmk
  rw[bg m y] at hmk
  refine ce (ac5 _ _ _ _ _ _ _ _ _ _ _ _ _ _) ?_
  repeat' (first|refine W_ ?_|((with_reducible apply aA);rfl;kernel_rfl;(repeat (first|exact az.nil|((with_reducible apply az.cons);rfl)));exact hG;exact hmk;exact .cons _ _ _ _ (.cons _ _ _ _ (.nil _));rintro ⟨u1,u2,u3⟩ -;refine pM ?_))
  refine ce (ada _ _ _ _ _ _ _ _ _ _ _ _ _ _ _) ?_
  obtain⟨q2,cq,bk,xc,n2,hb⟩:=kv.at_ (m:=adC m (ft 4 c.sender 0 false w)) (show kv m v0 from hbk)
  have hca:=mo hst cc s b (adC m (ft 4 c.sender 0 false w)) (yX y u1) (nRg aM m.contexts y.2.2.2.1.2++[aM (ft 4 c.sender 0 false w) ((u2,0),(u3,0),(sl,bl))]) (by rw[Zh,hxl];show _=(m.contexts++[_]).length;rw[Zh];rfl) (by show (m.contexts++[_]).length<=_;rw[Zh];show _+1<=_;omega) F.small.2.2.1.1 F.small.1.2.1.1 hy.1.2 m.processes rfl F.now F.prc v0 hb (m.contexts.length:Int)
  unfold mX mB mP at hca
  repeat' (first|refine W_ ?_|((with_reducible apply aA);rfl;kernel_rfl;(repeat (first|exact az.nil|((with_reducible apply az.cons);rfl)));exact hG;exact hca;exact .cons _ _ _ _ (.cons _ _ _ _ (.cons _ _ _ _ (.cons _ _ _ _ (.cons _ _ _ _ (.nil _)))));rintro ⟨w1,w2,w3,w4⟩ -;refine bV (objs':=_::_::_::_::_::_::_::_::_) rfl ?_))
  have hnp:m.processes[m.now.toNat]?=some pr:=by rw[show m.now.toNat=np by rw[F.now];rfl];exact F.prc
  have hst2:stP m ((m.contexts.length:Int)+1)=m.processes.set np ⟨(((m.contexts++[ft 4 c.sender 0 false w]).length:Nat):Int),pr.main⟩:=by unfold stP;rw[hnp,show m.now.toNat=np by rw[F.now];rfl,Zh];rfl
  have hM:acI m os (.aft (q:Int).toNat w)=fb m os (m.contexts++[ft 4 c.sender 0 false w,gf m v0 m.contexts.length]) (m.processes.set np ⟨(((m.contexts++[ft 4 c.sender 0 false w]).length:Nat):Int),pr.main⟩):=by
    show acI m os (.aft q w)=_
    unfold acI;dsimp only;rw[hcx];dsimp only;rw[hst2,show hdV c=v0 by unfold hdV;rw[hv0]]
  rw[show c.values.map (ab.tw 0)=[[.int .i64 v0.kind,.int .i64 v0.number,.str v0.text]] by rw[hv0];rfl] at hp6
  have hob:bG (gf m v0 m.contexts.length) (w2,(w3,0),(w4,0))=[(w2.1,w2.2,.row 3 ((List.replicate n2 zV).map (ab.tw 0))),(w3,0,.row 3 []),(w4,0,.row 3 [])]:=by
    rw[show gf m v0 m.contexts.length=gf (adC m (ft 4 c.sender 0 false w)) v0 m.contexts.length from rfl,hb.eq];rfl
  refine aZ x_ rfl (y.1,y.2.1,y.2.2.1,((y.2.2.2.1.1.1,w1),y.2.2.2.1.2++([((u2,0),(u3,0),(sl,bl)),(w2,(w3,0),(w4,0))]:List (Pl×Pl×Pl))),y.2.2.2.2) ?_ rfl (.app _ R) ?_ rfl
  ·rw[hM]
   exact⟨hy.1,hy.2.1,by
     show (y.2.2.2.1.2++_).length=(m.contexts++_).length
     rw[Zh,Zh,hpx];rfl⟩
  ·rw[hM]
   exact sI hol y R s b hpx (ft 4 c.sender 0 false w) (gf m v0 m.contexts.length) ((u2,0),(u3,0),(sl,bl)) (w2,(w3,0),(w4,0)) _ (ZA ..) hp6 rfl hob u1 w1
 rw[if_neg e2] at hg
 by_cases e3:c.mark=3
 ·rw[if_pos e3] at hg
  obtain⟨u,hu2,hu3⟩:=hhdo e3
  have hul:u<m.contexts.length:=by omega
  rw[hu2,dF hul] at hg
  dsimp only at hg
  have hsu:=F.send u hul
  have hrow2:∃p2,(nRg aM m.contexts y.2.2.2.1.2)[u]?=some (aM m.contexts[u] p2):=⟨_,kA aM (Za hul) (Za (by rw[hpx];exact hul))⟩
  obtain⟨p2,hrow2⟩:=hrow2
  generalize m.contexts[u]=d at hg hsu hrow2
  unfold aM at hrow2
  have hlv:=ih k (by omega) os y r (q:Int) d.sender w false hol hy (by omega) (by omega) hg
  rw[hu2] at hrow
  rw[bg m y] at hlv
  repeat' (first|refine W_ ?_|(refine ak ?_;intro ss bb)|refine ac ?_|((with_reducible apply dh (id:=13) 15);kernel_rfl;kernel_rfl;kernel_rfl;(repeat (first|exact Cut.zero _|apply Cut.succ)))|with_reducible refine dB (by kernel_rfl) (by kernel_rfl) ?_|with_reducible refine eV ?_|with_reducible refine dz ?_|with_reducible refine dC rfl ?_|refine eS rfl rfl rfl rr_ ?_|refine dx rfl rfl rfl rr_ rfl rfl rfl ?_|refine cG rfl rfl rfl rr_ rfl rfl ?_|(refine iH rfl rfl rfl rr_ dd_ ?_)|(refine ir rfl rfl rfl rr_ dd_ ?_)|(refine bX rfl rfl rfl rr_ (fun hg=>?_) (fun hg=>?_))|(refine bF rfl rfl rfl rr_ (fun hg=>?_) (fun hg=>?_))|((with_reducible apply d_y);exact y_;rfl))
  refine ce (.drop (bS.trans (.drop (cX (fb m os m.contexts m.processes) y _ R)) (iC hp6))) ?_
  repeat' (first|refine W_ ?_|((with_reducible apply aA);rfl;kernel_rfl;(repeat (first|exact az.nil|((with_reducible apply az.cons);rfl)));exact hG;exact hlv;exact .app _ _;intro y' hy';refine bV (objs':=_::_) rfl ?_))
  exact aZ x_ rfl y' hy' rfl (.app _ R) (.refl _) rfl
 rw[if_neg e3] at hg
 by_cases e4:c.mark=4
 ·rw[if_pos e4] at hg
  obtain⟨w2,hw2⟩:=haft e4
  rw[hw2] at hg
  dsimp only at hg
  have hwl:c.values.length=1:=by rw[hw2];rfl
  rw[show c.values.map (ab.tw 0)=[[.int .i64 w2.kind,.int .i64 w2.number,.str w2.text]] by rw[hw2];rfl]
  repeat' (first|refine W_ ?_|(refine ak ?_;intro ss bb)|refine ac ?_)
  refine ah (k,c.sender,w2) ⟨by dsimp only;omega,by dsimp only;omega,hg⟩ (by dsimp only;omega) (.of _ nw_ od_ ?_)
  rw[show c.values.map (ab.tw 0)=[[.int .i64 w2.kind,.int .i64 w2.number,.str w2.text]] by rw[hw2];rfl] at hp6
  exact .drop (iC hp6)
 rw[if_neg e4] at hg
 have e5:c.mark=5:=by omega
 rw[if_pos e5] at hg
 obtain⟨⟨w2,hw2⟩,⟨ho1,ho2⟩,_⟩:=hunw e5
 rw[hw2] at hg
 dsimp only at hg
 have hwl:c.values.length=1:=by rw[hw2];rfl
 have hlv:=ih k (by omega) os y r c.sender c.other w2 c.retry hol hy (by omega) (by omega) hg
 rw[bg m y] at hlv
 rw[show c.values.map (ab.tw 0)=[[.int .i64 w2.kind,.int .i64 w2.number,.str w2.text]] by rw[hw2];rfl] at hp6 |-
 repeat' (first|refine W_ ?_|(refine ak ?_;intro ss bb)|refine ac ?_|((with_reducible apply dh (id:=18) 11);kernel_rfl;kernel_rfl;kernel_rfl;(repeat (first|exact Cut.zero _|apply Cut.succ)))|with_reducible refine dB (by kernel_rfl) (by kernel_rfl) ?_|with_reducible refine eV ?_|with_reducible refine dz ?_|with_reducible refine dC rfl ?_|refine eS rfl rfl rfl rr_ ?_|refine dx rfl rfl rfl rr_ rfl rfl rfl ?_|refine cG rfl rfl rfl rr_ rfl rfl ?_|(refine iH rfl rfl rfl rr_ dd_ ?_)|(refine ir rfl rfl rfl rr_ dd_ ?_)|(refine bX rfl rfl rfl rr_ (fun hg=>?_) (fun hg=>?_))|(refine bF rfl rfl rfl rr_ (fun hg=>?_) (fun hg=>?_))|((with_reducible apply d_y);exact y_;rfl))
 refine ce (.drop (bS.trans (.drop (cX (fb m os m.contexts m.processes) y _ R)) (iC hp6))) ?_
 repeat' (first|refine W_ ?_|((with_reducible apply aA);rfl;kernel_rfl;(repeat (first|exact az.nil|((with_reducible apply az.cons);rfl)));exact hG;exact hlv;exact .app _ _;intro y' hy';refine bV (objs':=_::_) rfl ?_))
 exact aZ x_ rfl y' hy' rfl (.app _ R) (.refl _) rfl
variable {G:World->Prop}
def yO (y:bJ) (py:List (Pl×Pl)):bJ:=(y.1,(y.2.1.1,(y.2.1.2.1.1,py),y.2.1.2.2),y.2.2)
theorem agJ (v b x o p bl cd rd sl sk vl:Nat×Nat×aV) (T:aG):bS (x::b::p::bl::cd::o::rd::sl::sk::vl::T) (v::b::x::o::p::bl::cd::rd::sl::sk::vl::T):=.trans (.sub (show List.Sublist (x::b::p::bl::cd::o::rd::sl::sk::vl::T) (v::x::b::p::bl::cd::o::rd::sl::sk::vl::T) from by
 have h:=Z1 ([v]) (x::b::p::bl::cd::o::rd::sl::sk::vl::T)
 simpa using h)) (.perm (by
 have h:=bA (n:=12) [[v],[b],[x],[o],[p],[bl],[cd],[rd],[sl],[sk],[vl],T] [0,2,1,4,5,6,3,7,8,9,10,11] rfl (by decide)
 exact(show (v::x::b::p::bl::cd::o::rd::sl::sk::vl::T).Perm (v::b::x::o::p::bl::cd::rd::sl::sk::vl::T) from by simpa using h)))
theorem agh {NX E NO T:aG} {x b p ps s3 s4 bl cd o rd sl sk vl:Nat×Nat×aV} (h:NX.Perm ([sl,sk,vl]++E)):bS (b::x::o::p::bl::cd::rd::(NO++((NX++[ps,s3,s4])++T))) (x::b::p::ps::s3::s4::bl::cd::o::rd::sl::sk::vl::(NO++(E++T))):=.perm (by
 have h1:([b,x,o,p,bl,cd,rd]++(NO++((NX++[ps,s3,s4])++T))).Perm ([b,x,o,p,bl,cd,rd]++(NO++((([sl,sk,vl]++E)++[ps,s3,s4])++T))):=ZW _ (ZW _ ((h.append_right _).append_right T))
 have h2:=bA (n:=16) [[x],[b],[p],[ps],[s3],[s4],[bl],[cd],[o],[rd],[sl],[sk],[vl],NO,E,T] [1,0,8,2,6,7,9,13,10,11,12,14,3,4,5,15] rfl (by decide)
 have h3:([b,x,o,p,bl,cd,rd]++(NO++((([sl,sk,vl]++E)++[ps,s3,s4])++T))).Perm (x::b::p::ps::s3::s4::bl::cd::o::rd::sl::sk::vl::(NO++(E++T))):=by simpa using h2
 have h4:=h1.trans h3
 simpa using h4)
theorem acC {m:ad} {os:List ar} (hol:os.length=m.store.objects.length) (y:bJ) (R:aG) (s b:Nat) (hpx:y.2.2.2.1.2.length=m.contexts.length) (d:ao) (p2:Pl×Pl×Pl) (ps:List ag) (hps:ps.length=m.processes.length) {E:aG} {sl sk vl q1 q2 q3:Nat×Nat×aV} (hp6:(nOg bG m.contexts y.2.2.2.1.2).Perm ([sl,sk,vl]++E)) (hd:bG d p2=[q1,q2,q3]) (w1:Nat) :
   bS ((s,b,.box (imC (fb m os (m.contexts++[d]) ps) (y.1,y.2.1,y.2.2.1,((y.2.2.2.1.1.1,w1),y.2.2.2.1.2++[p2]),y.2.2.2.2)))::(imO (fb m os (m.contexts++[d]) ps) (y.1,y.2.1,y.2.2.1,((y.2.2.2.1.1.1,w1),y.2.2.2.1.2++[p2]),y.2.2.2.2)++R))
     (mX (yX y w1) (nRg aM m.contexts y.2.2.2.1.2++[aM d p2])::(s,b,.box (imC (adC m d) (yX y w1)))::mP y ps::q1::q2::q3::blR m y::cdR m y::mO y (nRg cf os y.2.1.2.1.2)::rdR m y::sl::sk::vl::(nOg cI os y.2.1.2.1.2++(E++(kJ m y++R)))):=by
 have hbx:imC (fb m os (m.contexts++[d]) ps) (y.1,y.2.1,y.2.2.1,((y.2.2.2.1.1.1,w1),y.2.2.2.1.2++[p2]),y.2.2.2.2)=imC (adC m d) (yX y w1):=by
   refine(bg _ _).trans (.trans ?_ (bg _ _).symm)
   unfold adC fb yX
   dsimp only
   rw[hol,hps]
 have h7:nRg aM (m.contexts++[d]) (y.2.2.2.1.2++[p2])=nRg aM m.contexts y.2.2.2.1.2++[aM d p2]:=(ab1 aM hpx d p2).symm
 have h8:nOg bG (m.contexts++[d]) (y.2.2.2.1.2++[p2])=nOg bG m.contexts y.2.2.2.1.2++[q1,q2,q3]:=by rw[acA bG hpx,hd]
 have hpk:=cX (fb m os (m.contexts++[d]) ps) (y.1,y.2.1,y.2.2.1,((y.2.2.2.1.1.1,w1),y.2.2.2.1.2++[p2]),y.2.2.2.2) (s,b,.box (imC (adC m d) (yX y w1))) R
 rw[hbx]
 refine .trans hpk ?_
 change bS (_::mX (yX y w1) (nRg aM (m.contexts++[d]) (y.2.2.2.1.2++[p2]))::_::_::_::_::_::(_++(nOg bG (m.contexts++[d]) (y.2.2.2.1.2++[p2])++_))) _
 rw[h7,h8]
 exact agh hp6
theorem agA {NO EO T:aG} {v B x1 x2 x3 x4 x5 x6 a b c f g:Nat×Nat×aV} (h:NO.Perm ([f,g]++EO)):bS (v::B::x1::x2::x3::x4::x5::x6::a::b::c::f::g::(EO++T)) (v::B::x1::x2::x3::x4::x5::x6::a::b::c::(NO++T)):=.perm (by
 have h1:([v,B,x1,x2,x3,x4,x5,x6,a,b,c]++(NO++T)).Perm ([v,B,x1,x2,x3,x4,x5,x6,a,b,c]++(([f,g]++EO)++T)):=ZW _ (h.append_right T)
 simpa using h1.symm)
theorem ahs {NO NX EO E T:aG} {lt cb v B x1 x2 x3 x4 x5 x6 a b c f g:Nat×Nat×aV} (h:NO.Perm ([f,lt]++EO)) (h6:NX.Perm ([a,b,c]++E)):bS (v::B::x1::x2::x3::x4::x5::x6::(NO++(NX++T))) (lt::cb::v::B::x1::x2::x3::x4::x5::x6::a::b::c::f::g::(EO++(E++T))):=by
 have h1:(([f,lt]++EO)++(([a,b,c]++E)++T)).Perm (NO++(NX++T)):=(h.append (h6.append_right T)).symm
 have h2:=bA (n:=10) [[lt],[v,B,x1,x2,x3,x4,x5,x6],[a],[b],[c],[f],EO,E,T,[]] [1,5,0,6,2,3,4,7,8,9] rfl (by decide)
 have h3:([v,B,x1,x2,x3,x4,x5,x6]++(NO++(NX++T))).Perm (lt::v::B::x1::x2::x3::x4::x5::x6::a::b::c::f::(EO++(E++T))):=by
   refine(ZW _ h1.symm).trans ?_
   simpa using h2
 refine .trans (.perm (by simpa using h3)) (.sub ?_)
 have h4:List.Sublist (EO++(E++T)) (g::(EO++(E++T))):=Xh _ _
 exact .cons_cons _ (.cons _ (.cons_cons _ (.cons_cons _ (.cons_cons _ (.cons_cons _ (.cons_cons _ (.cons_cons _ (.cons_cons _ (.cons_cons _ (.cons_cons _ (.cons_cons _ (.cons_cons _ (.cons_cons _ h4)))))))))))))
theorem afS (hst:ay G) {m:ad} {np:Nat} {pr:ag} (F:MFa m np pr) (s b n:Nat) (ih:∀k,k<n->ahO G m s b k):aic G m s b n:=by
 intro os y r t wo v rr hol hy ht hwo hgo
 refine au Tryz.func47 rfl Tryz.ntmps47 rfl rfl rfl fun w0 R gs objsR hG hR=>?_
 obtain rfl:=hR.eq
 clear hR
 have hcl:=F.big
 have hpx:y.2.2.2.1.2.length=m.contexts.length:=hy.2.2
 have hxl:(nRg aM m.contexts y.2.2.2.1.2).length=m.contexts.length:=eN _ hpx
 have hop:=pl (fb m os m.contexts m.processes) y (s,b,.box (imC m y)) R
 refine aR hop ?_
 clear hop
 change AW _ _ _ _ _ _ ((s,b,.box (imC m y))::mX y (nRg aM m.contexts y.2.2.2.1.2)::mO y (nRg cf os y.2.1.2.1.2)::mP y m.processes::blR m y::cdR m y::rdR m y::(nOg cI os y.2.1.2.1.2++(nOg bG m.contexts y.2.2.2.1.2++(kJ m y++R))))
 unfold mX mO mP blR cdR rdR
 rw[bg m y]
 repeat' (first|refine W_ ?_|((with_reducible apply o5);rfl;rfl;rfl;intro ss bb))
 generalize ss=sv;generalize bb=bv
 apply ap (X:=Nat×Int×List ar×List (Pl×Pl)) [0,2,4,8,1000000] (fun x=>[(1,.int .i64 x.2.1)])
   (fun x=>(sv,bv,.box [.int .i64 v.kind,.int .i64 v.number,.str v.text])::(s,b,.box (imC m y))::mX y (nRg aM m.contexts y.2.2.2.1.2)::mO y (nRg cf x.2.2.1 x.2.2.2)::mP y m.processes::blR m y::cdR m y::rdR m y::(nOg cI x.2.2.1 x.2.2.2++(nOg bG m.contexts y.2.2.2.1.2++(kJ m y++R))))
   (fun x=>x.1<=n/\x.2.1<m.contexts.length/\x.2.2.1.length=m.store.objects.length/\x.2.2.2.length=x.2.2.1.length/\goF m x.1 x.2.2.1 (.lea x.2.1 wo v rr)=some r) (fun x=>x.1) (n,t,os,y.2.1.2.1.2) ⟨Zg _,ht,hol,hy.2.1.2,hgo⟩
 exact kp_;exact nw_
 ·rw[bg m y];exact .refl _
 rintro ⟨k,u,os2,py⟩ ⟨hk,hu,hol2,hpy,hgf⟩
 dsimp only at hk hu hol2 hpy hgf |-
 cases k with
 | zero=>cases hgf
 | succ k =>
 have hy2:imI (fb m os2 m.contexts m.processes) (yO y py):=⟨hy.1,⟨hy.2.1.1,hpy⟩,hy.2.2⟩
 by_cases hin:0<=u/\u≠wo
 ·have hi1:=hin.1
  have hi2:=hin.2
  obtain⟨q,rfl⟩:∃q:Nat,u=q:=⟨u.toNat,by omega⟩
  have hq:q<m.contexts.length:=by omega
  have hsq:=F.send q hq
  have hmr:=F.mks.mrk q hq
  have hens:=F.mks.ens q hq
  have hhdl:=F.mks.hdl q hq
  have hsz:=F.small.2.2.2.1.2 _ (Zb hq)
  obtain⟨p,E,hp1,hp2,hp3,hp4⟩:=gX aM bG m.contexts y.2.2.2.1.2 hpx hq
  have hcx:m.contexts[q]?=some m.contexts[q]:=Za hq
  simp only[goF,if_pos hin,dF hq] at hgf
  generalize hc:m.contexts[q]=c at hgf hsq hmr hens hhdl hp2 hp3 hcx hsz
  have hp6:(nOg bG m.contexts y.2.2.2.1.2).Perm ([(p.1.1,p.1.2,.row 3 (c.slots.map (ab.tw 0))),(p.2.1.1,p.2.1.2,.row 3 (c.stack.map (ab.tw 0))),(p.2.2.1,p.2.2.2,.row 3 (c.values.map (ab.tw 0)))]++E):=hp3
  have hrow:(nRg aM m.contexts y.2.2.2.1.2)[q]?=some [.int .i64 c.mark,.int .i64 c.code,.int .i64 c.pc,.int .i64 c.sender,.int .i64 c.outer,.int .i64 c.home,.int .i64 c.self.kind,.int .i64 c.self.number,.str c.self.text,.ms p.1.1 p.1.2 0 c.slots.length,.ms p.2.1.1 p.2.1.2 0 c.stack.length,.ms p.2.2.1 p.2.2.2 0 c.values.length,.int .i64 c.other,.bool c.retry]:=hp2
  refine aR (q8 hp6) ?_
  unfold mX mO mP blR cdR rdR
  rw[bg m y]
  by_cases e2:c.mark=2
  ·rw[if_pos e2] at hgf
   simp only[Zo] at hgf
   subst hgf
   obtain⟨v0,hv0,hbk⟩:=hens e2
   have hwl:c.values.length=1:=by rw[hv0];rfl
   rw[show c.values.map (ab.tw 0)=[[.int .i64 v0.kind,.int .i64 v0.number,.str v0.text]] by rw[hv0];rfl]
   repeat' (first|refine W_ ?_|(refine ak ?_;intro ss bb)|refine ac ?_|((with_reducible apply jn);rfl;rfl;kernel_rfl;kernel_rfl;rfl;kernel_rfl;rfl;rfl;rfl;rfl;intro sl bl))
   have hmk:=uH hst s b m y (nRg aM m.contexts y.2.2.2.1.2) hxl (by omega) 5 c.sender v sl bl
   unfold mX mB at hmk
   rw[bg m y] at hmk
   refine ce (ac5 _ _ _ _ _ _ _ _ _ _ _ _ _ _) ?_
   have hln:(adC m (ft 5 c.sender 0 false v)).contexts.length=m.contexts.length+1:=by show (m.contexts++[_]).length=_;rw[Zh];rfl
   repeat' (first|refine W_ ?_|((with_reducible apply aA);rfl;kernel_rfl;(repeat (first|exact az.nil|((with_reducible apply az.cons);rfl)));exact hG;exact hmk;exact .cons _ _ _ _ (.cons _ _ _ _ (.nil _));rintro uu -;refine pM ?_))
   have hrw:(nRg aM m.contexts y.2.2.2.1.2++[aM (ft 5 c.sender 0 false v) ((uu.2.1,0),(uu.2.2,0),(sl,bl))])[m.contexts.length]?=some [.int .i64 5,.int .i64 0,.int .i64 0,.int .i64 c.sender,.int .i64 (-1),.int .i64 (-1),.int .i64 zV.kind,.int .i64 zV.number,.str zV.text,.ms uu.2.1 0 0 0,.ms uu.2.2 0 0 0,.ms sl bl 0 1,.int .i64 0,.bool false]:=by rw[<- hxl,List.getElem?_concat_length];rfl
   have hrw2:((nRg aM m.contexts y.2.2.2.1.2++[aM (ft 5 c.sender 0 false v) ((uu.2.1,0),(uu.2.2,0),(sl,bl))]).set m.contexts.length [.int .i64 5,.int .i64 0,.int .i64 0,.int .i64 c.sender,.int .i64 (-1),.int .i64 (-1),.int .i64 zV.kind,.int .i64 zV.number,.str zV.text,.ms uu.2.1 0 0 0,.ms uu.2.2 0 0 0,.ms sl bl 0 1,.int .i64 wo,.bool false])[m.contexts.length]?=some [.int .i64 5,.int .i64 0,.int .i64 0,.int .i64 c.sender,.int .i64 (-1),.int .i64 (-1),.int .i64 zV.kind,.int .i64 zV.number,.str zV.text,.ms uu.2.1 0 0 0,.ms uu.2.2 0 0 0,.ms sl bl 0 1,.int .i64 wo,.bool false]:=f5 (by rw[Zh,hxl];show _<_+1;omega)
   repeat' (first|refine W_ ?_|refine bD ?_)
   have hr3:(((nRg aM m.contexts y.2.2.2.1.2++[aM (ft 5 c.sender 0 false v) ((uu.2.1,0),(uu.2.2,0),(sl,bl))]).set m.contexts.length [.int .i64 5,.int .i64 0,.int .i64 0,.int .i64 c.sender,.int .i64 (-1),.int .i64 (-1),.int .i64 zV.kind,.int .i64 zV.number,.str zV.text,.ms uu.2.1 0 0 0,.ms uu.2.2 0 0 0,.ms sl bl 0 1,.int .i64 wo,.bool false]).set m.contexts.length [.int .i64 5,.int .i64 0,.int .i64 0,.int .i64 c.sender,.int .i64 (-1),.int .i64 (-1),.int .i64 zV.kind,.int .i64 zV.number,.str zV.text,.ms uu.2.1 0 0 0,.ms uu.2.2 0 0 0,.ms sl bl 0 1,.int .i64 wo,.bool rr])=nRg aM m.contexts y.2.2.2.1.2++[aM (ft 5 c.sender wo rr v) ((uu.2.1,0),(uu.2.2,0),(sl,bl))]:=by
     rw[YC,Yw _ _ (by rw[hxl];omega),hxl,Yt];rfl
   have hb3:imC (adC m (ft 5 c.sender 0 false v)) (yX y uu.1)=imC (adC m (ft 5 c.sender wo rr v)) (yX y uu.1):=by
     rw[bg,bg];unfold adC fb;dsimp only;rw[Zh,Zh];rfl
   rw[hr3,hb3]
   refine ce (ada _ _ _ _ _ _ _ _ _ _ _ _ _ _ _) ?_
   obtain⟨q2,cq,bk,xc,n2,hb⟩:=kv.at_ (m:=adC m (ft 5 c.sender wo rr v)) (show kv m v0 from hbk)
   have hca:=pY hst s b (adC m (ft 5 c.sender wo rr v)) (yX y uu.1) (nRg aM m.contexts y.2.2.2.1.2++[aM (ft 5 c.sender wo rr v) ((uu.2.1,0),(uu.2.2,0),(sl,bl))]) (by rw[Zh,hxl];show _=(m.contexts++[_]).length;rw[Zh];rfl) (by show (m.contexts++[_]).length<=_;rw[Zh];show _+1<=_;omega) F.small.2.2.1.1 F.small.1.2.1.1 hy.1.2 m.processes rfl F.now F.prc v0 hb (m.contexts.length:Int)
   unfold mX mB mP at hca
   repeat' (first|refine W_ ?_|((with_reducible apply aA);rfl;kernel_rfl;(repeat (first|exact az.nil|((with_reducible apply az.cons);rfl)));exact hG;exact hca;exact .cons _ _ _ _ (.cons _ _ _ _ (.cons _ _ _ _ (.cons _ _ _ _ (.cons _ _ _ _ (.nil _)))));rintro ⟨w1,w2,w3,w4⟩ -;refine bV (objs':=_::_::_::_::_::_::_::_::_) rfl ?_))
   have hst2:stP m ((m.contexts.length:Int)+1)=m.processes.set np ⟨(((m.contexts++[(ft 5 c.sender wo rr v)]).length:Nat):Int),pr.main⟩:=by unfold stP;rw[show m.now.toNat=np by rw[F.now];rfl,F.prc,Zh];rfl
   have hM:acI m os2 (.unw (q:Int).toNat wo v rr)=fb m os2 (m.contexts++[(ft 5 c.sender wo rr v),gf m v0 m.contexts.length]) (m.processes.set np ⟨(((m.contexts++[(ft 5 c.sender wo rr v)]).length:Nat):Int),pr.main⟩):=by
     show acI m os2 (.unw q wo v rr)=_
     unfold acI;dsimp only;rw[hcx];dsimp only;rw[hst2,show hdV c=v0 by unfold hdV;rw[hv0]]
   rw[show c.values.map (ab.tw 0)=[[.int .i64 v0.kind,.int .i64 v0.number,.str v0.text]] by rw[hv0];rfl] at hp6
   have hob:bG (gf m v0 m.contexts.length) (w2,(w3,0),(w4,0))=[(w2.1,w2.2,.row 3 ((List.replicate n2 zV).map (ab.tw 0))),(w3,0,.row 3 []),(w4,0,.row 3 [])]:=by
     rw[show gf m v0 m.contexts.length=gf (adC m (ft 5 c.sender wo rr v)) v0 m.contexts.length from rfl,hb.eq];rfl
   refine aZ x_ rfl (y.1,(y.2.1.1,(y.2.1.2.1.1,py),y.2.1.2.2),y.2.2.1,((y.2.2.2.1.1.1,w1),y.2.2.2.1.2++([((uu.2.1,0),(uu.2.2,0),(sl,bl)),(w2,(w3,0),(w4,0))]:List (Pl×Pl×Pl))),y.2.2.2.2) ?_ rfl (.app _ R) ?_ rfl
   ·rw[hM]
    exact⟨hy2.1,hy2.2.1,by
      show (y.2.2.2.1.2++_).length=(m.contexts++_).length
      rw[Zh,Zh,hpx];rfl⟩
   ·rw[hM]
    exact sI hol2 (yO y py) R s b hpx (ft 5 c.sender wo rr v) (gf m v0 m.contexts.length) ((uu.2.1,0),(uu.2.2,0),(sl,bl)) (w2,(w3,0),(w4,0)) _ (ZA ..) hp6 rfl hob uu.1 w1
  rw[if_neg e2] at hgf
  by_cases e3:c.mark=3
  ·rw[if_pos e3] at hgf
   obtain⟨v0,qo,hv1,hv2,hv3,hv4⟩:=hhdl e3
   rw[show hdN c=qo by unfold hdN;rw[hv1];simp[hv3]] at hgf
   have huo:qo<os2.length:=by omega
   obtain⟨pp,FE,ho1,ho2,ho3,ho4⟩:=gX cf cI os2 py hpy huo
   have hrl:(nRg cf os2 py).length=m.store.objects.length:=by rw[eN _ hpy];exact hol2
   unfold acY at hgf
   rw[Za huo] at hgf
   dsimp only at hgf
   have hosu:(os2.set qo (ady os2[qo])).length=m.store.objects.length:=by rw[ZA];exact hol2
   have hmk:∀r,cf (ady os2[qo]) (pp.1,r)=[.int .i64 os2[qo].kind,.int .i64 os2[qo].class_,.ms pp.1.1 pp.1.2 0 os2[qo].fields.length,.ms r.1 r.2 0 3]:=fun _=>rfl
   have hob:∀r,cI (ady os2[qo]) (pp.1,r)=[(pp.1.1,pp.1.2,.row 3 (os2[qo].fields.map (ab.tw 0))),(r.1,r.2,.row 1 (aS [-1,-1,0]))]:=fun _=>rfl
   generalize ady os2[qo]=o' at hgf hosu hmk hob
   generalize os2[qo]=o at hgf ho2 ho3 hmk hob
   have hp9:(nOg cI os2 py).Perm ([(pp.1.1,pp.1.2,.row 3 (o.fields.map (ab.tw 0))),(pp.2.1,pp.2.2,.row 1 (aS o.numbers))]++FE):=ho3
   obtain⟨vk,vn,vt⟩:=v0
   subst hv2 hv3
   have hwl:c.values.length=1:=by rw[hv1];rfl
   have hvr:c.values.map (ab.tw 0)=[[.int .i64 6,.int .i64 (qo:Int),.str vt]]:=by rw[hv1];rfl
   rw[hvr] at hp6 |-
   by_cases hcc:o.kind=1/\o.numbers.length=3
   ·rw[if_pos hcc] at hgf
    obtain⟨hc1,hc2⟩:=hcc
    have hp5:=fun r=>ho4 o' (pp.1,r)
    simp only[hmk,hob] at hp5
    refine aR (agA hp9) ?_
    generalize nRg cf os2 py=rows at ho2 hp5 hrl
    unfold cf at ho2
    repeat' (first|refine V_ ?_|(refine ak ?_;intro ss bb)|refine ac ?_|(refine jz ?_;intro ss bb)|refine bD ?_)
    refine ah (k,c.sender,os2.set qo o',py.set qo (pp.1,((ss,bb):Pl))) ⟨by dsimp only;omega,by dsimp only;omega,hosu,by dsimp only;rw[ZA,ZA];exact hpy,hgf⟩ (by dsimp only;omega) (.of _ nw_ od_ ?_)
    dsimp only
    rw[(hp5 (ss,bb)).1]
    exact ahs (hp5 (ss,bb)).2 hp6
   ·rw[if_neg hcc] at hgf
    unfold cf at ho2
    have hc2:o.kind=1->¬ o.numbers.length=3:=fun g1 g2=>hcc ⟨g1,g2⟩
    by_cases hk1:o.kind=1
    ·have hc3:=hc2 hk1
     repeat' (first|refine V_ ?_|(refine ak ?_;intro ss bb)|refine ac ?_)
     exact ah (k,c.sender,os2,py) ⟨by dsimp only;omega,by dsimp only;omega,hol2,hpy,hgf⟩ (by dsimp only;omega) (.of _ nw_ od_ (.drop (iC hp6)))
    ·repeat' (first|refine V_ ?_|(refine ak ?_;intro ss bb)|refine ac ?_)
     exact ah (k,c.sender,os2,py) ⟨by dsimp only;omega,by dsimp only;omega,hol2,hpy,hgf⟩ (by dsimp only;omega) (.of _ nw_ od_ (.drop (iC hp6)))
  rw[if_neg e3] at hgf
  repeat' (first|refine W_ ?_|(refine ak ?_;intro ss bb)|refine ac ?_)
  refine ah (k,c.sender,os2,py) ⟨by dsimp only;omega,by dsimp only;omega,hol2,hpy,hgf⟩ (by dsimp only;omega) (.of _ nw_ od_ ?_)
  exact .drop (iC hp6)
 simp only[goF,if_neg hin] at hgf
 cases hrr:rr with
 | true =>
   rw[hrr,if_pos rfl] at hgf
   obtain⟨q,rfl⟩:∃q:Nat,wo=q:=by
     refine⟨wo.toNat, ?_⟩
     by_cases h0:0<=wo
     ·omega
     ·rw[rO (by omega)] at hgf;cases hgf
   have hq:q<m.contexts.length:=by omega
   have hodo:=F.mks.odo q hq
   have hsz:=F.small.2.2.2.1.2 _ (Zb hq)
   obtain⟨p,E,hp1,hp2,hp3,hp4⟩:=gX aM bG m.contexts y.2.2.2.1.2 hpx hq
   have hcx:m.contexts[q]?=some m.contexts[q]:=Za hq
   rw[dF hq] at hgf
   dsimp only at hgf
   generalize hc:m.contexts[q]=c at hgf hodo hp2 hp3 hcx hsz
   by_cases e1:c.mark=1
   case neg=>rw[if_neg e1] at hgf;cases hgf
   rw[if_pos e1] at hgf
   simp only[Zo] at hgf
   subst hgf
   obtain⟨a0,b0,v0,hv0,hbk⟩:=hodo e1
   have hwl:c.values.length=3:=by rw[hv0];rfl
   have hvr:c.values.map (ab.tw 0)=[[.int .i64 a0.kind,.int .i64 a0.number,.str a0.text],[.int .i64 b0.kind,.int .i64 b0.number,.str b0.text],[.int .i64 v0.kind,.int .i64 v0.number,.str v0.text]]:=by rw[hv0];rfl
   have hp6:(nOg bG m.contexts y.2.2.2.1.2).Perm ([(p.1.1,p.1.2,.row 3 (c.slots.map (ab.tw 0))),(p.2.1.1,p.2.1.2,.row 3 (c.stack.map (ab.tw 0))),(p.2.2.1,p.2.2.2,.row 3 (c.values.map (ab.tw 0)))]++E):=hp3
   have hrow:(nRg aM m.contexts y.2.2.2.1.2)[q]?=some [.int .i64 c.mark,.int .i64 c.code,.int .i64 c.pc,.int .i64 c.sender,.int .i64 c.outer,.int .i64 c.home,.int .i64 c.self.kind,.int .i64 c.self.number,.str c.self.text,.ms p.1.1 p.1.2 0 c.slots.length,.ms p.2.1.1 p.2.1.2 0 c.stack.length,.ms p.2.2.1 p.2.2.2 0 c.values.length,.int .i64 c.other,.bool c.retry]:=hp2
   rw[hvr] at hp6
   refine aR (q8 hp6) ?_
   unfold mX mO mP blR cdR rdR
   rw[bg m y]
   rcases(show u=(q:Int)\/(u≠(q:Int)/\u<0) by omega) with h5|⟨h5,h6⟩
   all_goals
    repeat' refine W_ ?_
    refine ce (agJ _ _ _ _ _ _ _ _ _ _ _ _) ?_
    obtain⟨q2,cq,bk,xc,n2,hb⟩:=kv.at_ hbk
    have hca:=pY hst s b m y (nRg aM m.contexts y.2.2.2.1.2) hxl (by omega) F.small.2.2.1.1 F.small.1.2.1.1 hy.1.2 m.processes rfl F.now F.prc v0 hb (q:Int)
    unfold mX mB mP at hca
    rw[bg m y] at hca
    repeat' (first|refine W_ ?_|((with_reducible apply aA);rfl;kernel_rfl;(repeat (first|exact az.nil|((with_reducible apply az.cons);rfl)));exact hG;exact hca;exact .cons _ _ _ _ (.cons _ _ _ _ (.cons _ _ _ _ (.cons _ _ _ _ (.cons _ _ _ _ (.nil _)))));rintro ⟨w1,w2,w3,w4⟩ -;refine bV (objs':=_::_::_::_::_::_::_::_::_) rfl ?_))
    have hst2:stP m (m.contexts.length:Int)=m.processes.set np ⟨((m.contexts.length:Nat):Int),pr.main⟩:=by unfold stP;rw[show m.now.toNat=np by rw[F.now];rfl,F.prc]
    have hM:acI m os2 (.agn (q:Int).toNat)=fb m os2 (m.contexts++[gf m v0 (q:Int)]) (m.processes.set np ⟨((m.contexts.length:Nat):Int),pr.main⟩):=by
      show acI m os2 (.agn q)=_
      unfold acI;dsimp only;rw[hcx];dsimp only;rw[hst2,show thV c=v0 by unfold thV;rw[hv0]]
    have hob:bG (gf m v0 (q:Int)) (w2,(w3,0),(w4,0))=[(w2.1,w2.2,.row 3 ((List.replicate n2 zV).map (ab.tw 0))),(w3,0,.row 3 []),(w4,0,.row 3 [])]:=by
      rw[hb.eq];rfl
    refine aZ x_ rfl (y.1,(y.2.1.1,(y.2.1.2.1.1,py),y.2.1.2.2),y.2.2.1,((y.2.2.2.1.1.1,w1),y.2.2.2.1.2++([(w2,(w3,0),(w4,0))]:List (Pl×Pl×Pl))),y.2.2.2.2) ?_ rfl (.app _ R) ?_ rfl
    ·rw[hM]
     exact⟨hy2.1,hy2.2.1,by
       show (y.2.2.2.1.2++_).length=(m.contexts++_).length
       rw[Zh,Zh,hpx];rfl⟩
    ·rw[hM]
     exact acC hol2 (yO y py) R s b hpx (gf m v0 (q:Int)) (w2,(w3,0),(w4,0)) _ (ZA ..) hp6 hob w1
 | false =>
   rw[hrr] at hgf
   rw[if_neg (by simp)] at hgf
   have hlv:=ih k (by omega) os2 (yO y py) r wo v hol2 hy2 hwo hgf
   unfold mX mO mP blR cdR rdR
   rw[show imC m (yO y py)=imC m y from rfl] at hlv
   rw[bg m y] at hlv |-
   rcases(show u=wo\/(u≠wo/\u<0) by omega) with h5|⟨h5,h6⟩
   all_goals
    repeat' refine W_ ?_
    refine ce (.drop (cX (fb m os2 m.contexts m.processes) (yO y py) _ R)) ?_
    repeat' (first|refine W_ ?_|((with_reducible apply aA);rfl;kernel_rfl;(repeat (first|exact az.nil|((with_reducible apply az.cons);rfl)));exact hG;exact hlv;exact .app _ _;intro y' hy';refine bV (objs':=_::_) rfl ?_))
    exact aZ x_ rfl y' hy' rfl (.app _ R) (.refl _) rfl
theorem af4 (cb v b x o p bl cd rd sl sk vl:Nat×Nat×aV) (T:aG):bS (b::o::vl::cb::v::x::p::bl::cd::rd::sl::sk::T) (cb::v::b::x::o::p::bl::cd::rd::sl::sk::vl::T):=(.perm (by
 have h:=bA (n:=13) [[cb],[v],[b],[x],[o],[p],[bl],[cd],[rd],[sl],[sk],[vl],T] [2,4,11,0,1,3,5,6,7,8,9,10,12] rfl (by decide)
 exact(show (b::o::vl::cb::v::x::p::bl::cd::rd::sl::sk::T).Perm (cb::v::b::x::o::p::bl::cd::rd::sl::sk::vl::T) from by simpa using h)))
theorem ahh (b o vl v x p bl cd rd sl sk:Nat×Nat×aV) (T:aG):bS (v::b::x::o::p::bl::cd::rd::sl::sk::vl::T) (b::o::vl::v::x::p::bl::cd::rd::sl::sk::T):=(.perm (by
 have h:=bA (n:=12) [[b],[o],[vl],[v],[x],[p],[bl],[cd],[rd],[sl],[sk],T] [3,0,4,1,5,6,7,8,9,10,2,11] rfl (by decide)
 exact(show (v::b::x::o::p::bl::cd::rd::sl::sk::vl::T).Perm (b::o::vl::v::x::p::bl::cd::rd::sl::sk::T) from by simpa using h)))
theorem ahT {NO NX EO E T:aG} {lt v B x1 x2 x3 x4 x5 x6 a b c f g:Nat×Nat×aV} (h:NO.Perm ([f,lt]++EO)) (h6:NX.Perm ([a,b,c]++E)):bS (v::B::x1::x2::x3::x4::x5::x6::(NO++(NX++T))) (lt::B::x2::c::v::x1::x3::x4::x5::x6::a::b::f::g::(EO++(E++T))):=by
 have h1:(([f,lt]++EO)++(([a,b,c]++E)++T)).Perm (NO++(NX++T)):=(h.append (h6.append_right T)).symm
 have h2:=bA (n:=16) [[lt],[B],[x2],[c],[v],[x1],[x3],[x4],[x5],[x6],[a],[b],[f],EO,E,T] [4,1,5,2,6,7,8,9,12,0,13,10,11,3,14,15] rfl (by decide)
 have h3:([v,B,x1,x2,x3,x4,x5,x6]++(NO++(NX++T))).Perm (lt::B::x2::c::v::x1::x3::x4::x5::x6::a::b::f::(EO++(E++T))):=by
   refine(ZW _ h1.symm).trans ?_
   simpa using h2
 refine .trans (.perm (by simpa using h3)) (.sub ?_)
 have h4:List.Sublist (EO++(E++T)) (g::(EO++(E++T))):=Xh _ _
 exact .cons_cons _ (.cons_cons _ (.cons_cons _ (.cons_cons _ (.cons_cons _ (.cons_cons _ (.cons_cons _ (.cons_cons _ (.cons_cons _ (.cons_cons _ (.cons_cons _ (.cons_cons _ (.cons_cons _ h4))))))))))))
variable {G:World->Prop}
theorem adx (hst:ay G) {m:ad} {np:Nat} {pr:ag} (F:MFa m np pr) (cc s b n:Nat) (ih:∀k,k<n->ae1 G m cc s b k):afJ G m cc s b n:=by
 intro os y r t wo v rr hol hy ht hwo hgo
 refine au Tryz.func52 rfl Tryz.ntmps52 rfl rfl rfl fun w0 R gs objsR hG hR=>?_
 obtain rfl:=hR.eq
 clear hR
 have hcl:=F.big
 have hpx:y.2.2.2.1.2.length=m.contexts.length:=hy.2.2
 have hxl:(nRg aM m.contexts y.2.2.2.1.2).length=m.contexts.length:=eN _ hpx
 have hop:=pl (fb m os m.contexts m.processes) y (s,b,.box (imC m y)) R
 refine aR hop ?_
 clear hop
 change AW _ _ _ _ _ _ ((s,b,.box (imC m y))::mX y (nRg aM m.contexts y.2.2.2.1.2)::mO y (nRg cf os y.2.1.2.1.2)::mP y m.processes::blR m y::cdR m y::rdR m y::(nOg cI os y.2.1.2.1.2++(nOg bG m.contexts y.2.2.2.1.2++(kJ m y++R))))
 unfold mX mO mP blR cdR rdR
 rw[bg m y]
 repeat' (first|refine W_ ?_|((with_reducible apply o5);rfl;rfl;rfl;intro ss bb))
 generalize ss=sv;generalize bb=bv
 apply ap (X:=Nat×Int×List ar×List (Pl×Pl)) [0,2,4,8,1000000] (fun x=>[(10,.int .i64 x.2.1)])
   (fun x=>(sv,bv,.box [.int .i64 v.kind,.int .i64 v.number,.str v.text])::(s,b,.box (imC m y))::mX y (nRg aM m.contexts y.2.2.2.1.2)::mO y (nRg cf x.2.2.1 x.2.2.2)::mP y m.processes::blR m y::cdR m y::rdR m y::(nOg cI x.2.2.1 x.2.2.2++(nOg bG m.contexts y.2.2.2.1.2++(kJ m y++R))))
   (fun x=>x.1<=n/\x.2.1<m.contexts.length/\x.2.2.1.length=m.store.objects.length/\x.2.2.2.length=x.2.2.1.length/\goF m x.1 x.2.2.1 (.lea x.2.1 wo v rr)=some r) (fun x=>x.1) (n,t,os,y.2.1.2.1.2) ⟨Zg _,ht,hol,hy.2.1.2,hgo⟩
 exact kp_;exact nw_
 ·rw[bg m y];exact .refl _
 rintro ⟨k,u,os2,py⟩ ⟨hk,hu,hol2,hpy,hgf⟩
 dsimp only at hk hu hol2 hpy hgf |-
 cases k with
 | zero=>cases hgf
 | succ k =>
 have hy2:imI (fb m os2 m.contexts m.processes) (yO y py):=⟨hy.1,⟨hy.2.1.1,hpy⟩,hy.2.2⟩
 by_cases hin:0<=u/\u≠wo
 ·have hi1:=hin.1
  have hi2:=hin.2
  obtain⟨q,rfl⟩:∃q:Nat,u=q:=⟨u.toNat,by omega⟩
  have hq:q<m.contexts.length:=by omega
  have hsq:=F.send q hq
  have hmr:=F.mks.mrk q hq
  have hens:=F.mks.ens q hq
  have hhdl:=F.mks.hdl q hq
  have hsz:=F.small.2.2.2.1.2 _ (Zb hq)
  obtain⟨p,E,hp1,hp2,hp3,hp4⟩:=gX aM bG m.contexts y.2.2.2.1.2 hpx hq
  have hcx:m.contexts[q]?=some m.contexts[q]:=Za hq
  simp only[goF,if_pos hin,dF hq] at hgf
  generalize hc:m.contexts[q]=c at hgf hsq hmr hens hhdl hp2 hp3 hcx hsz
  have hp6:(nOg bG m.contexts y.2.2.2.1.2).Perm ([(p.1.1,p.1.2,.row 3 (c.slots.map (ab.tw 0))),(p.2.1.1,p.2.1.2,.row 3 (c.stack.map (ab.tw 0))),(p.2.2.1,p.2.2.2,.row 3 (c.values.map (ab.tw 0)))]++E):=hp3
  have hrow:(nRg aM m.contexts y.2.2.2.1.2)[q]?=some [.int .i64 c.mark,.int .i64 c.code,.int .i64 c.pc,.int .i64 c.sender,.int .i64 c.outer,.int .i64 c.home,.int .i64 c.self.kind,.int .i64 c.self.number,.str c.self.text,.ms p.1.1 p.1.2 0 c.slots.length,.ms p.2.1.1 p.2.1.2 0 c.stack.length,.ms p.2.2.1 p.2.2.2 0 c.values.length,.int .i64 c.other,.bool c.retry]:=hp2
  refine aR (q8 hp6) ?_
  unfold mX mO mP blR cdR rdR
  rw[bg m y]
  by_cases e2:c.mark=2
  ·rw[if_pos e2] at hgf
   simp only[Zo] at hgf
   subst hgf
   obtain⟨v0,hv0,hbk⟩:=hens e2
   have hwl:c.values.length=1:=by rw[hv0];rfl
   rw[show c.values.map (ab.tw 0)=[[.int .i64 v0.kind,.int .i64 v0.number,.str v0.text]] by rw[hv0];rfl]
   repeat' (first|refine W_ ?_|(refine ak ?_;intro ss bb)|refine ac ?_|((with_reducible apply jn);rfl;rfl;kernel_rfl;kernel_rfl;rfl;kernel_rfl;rfl;rfl;rfl;rfl;intro sl bl))
   have hmk:=ad9 hst cc s b m y (nRg aM m.contexts y.2.2.2.1.2) hxl (by omega) 5 c.sender wo v sl bl
   unfold mX mB at hmk
   rw[bg m y] at hmk
   refine ce (ac5 _ _ _ _ _ _ _ _ _ _ _ _ _ _) ?_
   have hln:(adC m (ft 5 c.sender wo false v)).contexts.length=m.contexts.length+1:=by show (m.contexts++[_]).length=_;rw[Zh];rfl
   repeat' (first|refine W_ ?_|((with_reducible apply aA);rfl;kernel_rfl;(repeat (first|exact az.nil|((with_reducible apply az.cons);rfl)));exact hG;exact hmk;exact .cons _ _ _ _ (.cons _ _ _ _ (.nil _));rintro uu -;refine pM ?_))
   have hrw:(nRg aM m.contexts y.2.2.2.1.2++[aM (ft 5 c.sender wo false v) ((uu.2.1,0),(uu.2.2,0),(sl,bl))])[m.contexts.length]?=some [.int .i64 5,.int .i64 0,.int .i64 0,.int .i64 c.sender,.int .i64 (-1),.int .i64 (-1),.int .i64 zV.kind,.int .i64 zV.number,.str zV.text,.ms uu.2.1 0 0 0,.ms uu.2.2 0 0 0,.ms sl bl 0 1,.int .i64 wo,.bool false]:=by rw[<- hxl,List.getElem?_concat_length];rfl
   repeat' (first|refine W_ ?_|refine bD ?_)
   have hr3:((nRg aM m.contexts y.2.2.2.1.2++[aM (ft 5 c.sender wo false v) ((uu.2.1,0),(uu.2.2,0),(sl,bl))]).set m.contexts.length [.int .i64 5,.int .i64 0,.int .i64 0,.int .i64 c.sender,.int .i64 (-1),.int .i64 (-1),.int .i64 zV.kind,.int .i64 zV.number,.str zV.text,.ms uu.2.1 0 0 0,.ms uu.2.2 0 0 0,.ms sl bl 0 1,.int .i64 wo,.bool rr])=nRg aM m.contexts y.2.2.2.1.2++[aM (ft 5 c.sender wo rr v) ((uu.2.1,0),(uu.2.2,0),(sl,bl))]:=by
     rw[Yw _ _ (by rw[hxl];omega),hxl,Yt];rfl
   have hb3:imC (adC m (ft 5 c.sender wo false v)) (yX y uu.1)=imC (adC m (ft 5 c.sender wo rr v)) (yX y uu.1):=by
     rw[bg,bg];unfold adC fb;dsimp only;rw[Zh,Zh];rfl
   rw[hr3,hb3]
   refine ce (ada _ _ _ _ _ _ _ _ _ _ _ _ _ _ _) ?_
   obtain⟨q2,cq,bk,xc,n2,hb⟩:=kv.at_ (m:=adC m (ft 5 c.sender wo rr v)) (show kv m v0 from hbk)
   have hca:=mo hst cc s b (adC m (ft 5 c.sender wo rr v)) (yX y uu.1) (nRg aM m.contexts y.2.2.2.1.2++[aM (ft 5 c.sender wo rr v) ((uu.2.1,0),(uu.2.2,0),(sl,bl))]) (by rw[Zh,hxl];show _=(m.contexts++[_]).length;rw[Zh];rfl) (by show (m.contexts++[_]).length<=_;rw[Zh];show _+1<=_;omega) F.small.2.2.1.1 F.small.1.2.1.1 hy.1.2 m.processes rfl F.now F.prc v0 hb (m.contexts.length:Int)
   unfold mX mB mP at hca
   repeat' (first|refine W_ ?_|((with_reducible apply aA);rfl;kernel_rfl;(repeat (first|exact az.nil|((with_reducible apply az.cons);rfl)));exact hG;exact hca;exact .cons _ _ _ _ (.cons _ _ _ _ (.cons _ _ _ _ (.cons _ _ _ _ (.cons _ _ _ _ (.nil _)))));rintro ⟨w1,w2,w3,w4⟩ -;refine bV (objs':=_::_::_::_::_::_::_::_::_) rfl ?_))
   have hst2:stP m ((m.contexts.length:Int)+1)=m.processes.set np ⟨(((m.contexts++[(ft 5 c.sender wo rr v)]).length:Nat):Int),pr.main⟩:=by unfold stP;rw[show m.now.toNat=np by rw[F.now];rfl,F.prc,Zh];rfl
   have hM:acI m os2 (.unw (q:Int).toNat wo v rr)=fb m os2 (m.contexts++[(ft 5 c.sender wo rr v),gf m v0 m.contexts.length]) (m.processes.set np ⟨(((m.contexts++[(ft 5 c.sender wo rr v)]).length:Nat):Int),pr.main⟩):=by
     show acI m os2 (.unw q wo v rr)=_
     unfold acI;dsimp only;rw[hcx];dsimp only;rw[hst2,show hdV c=v0 by unfold hdV;rw[hv0]]
   rw[show c.values.map (ab.tw 0)=[[.int .i64 v0.kind,.int .i64 v0.number,.str v0.text]] by rw[hv0];rfl] at hp6
   have hob:bG (gf m v0 m.contexts.length) (w2,(w3,0),(w4,0))=[(w2.1,w2.2,.row 3 ((List.replicate n2 zV).map (ab.tw 0))),(w3,0,.row 3 []),(w4,0,.row 3 [])]:=by
     rw[show gf m v0 m.contexts.length=gf (adC m (ft 5 c.sender wo rr v)) v0 m.contexts.length from rfl,hb.eq];rfl
   refine aZ x_ rfl (y.1,(y.2.1.1,(y.2.1.2.1.1,py),y.2.1.2.2),y.2.2.1,((y.2.2.2.1.1.1,w1),y.2.2.2.1.2++([((uu.2.1,0),(uu.2.2,0),(sl,bl)),(w2,(w3,0),(w4,0))]:List (Pl×Pl×Pl))),y.2.2.2.2) ?_ rfl (.app _ R) ?_ rfl
   ·rw[hM]
    exact⟨hy2.1,hy2.2.1,by
      show (y.2.2.2.1.2++_).length=(m.contexts++_).length
      rw[Zh,Zh,hpx];rfl⟩
   ·rw[hM]
    exact sI hol2 (yO y py) R s b hpx (ft 5 c.sender wo rr v) (gf m v0 m.contexts.length) ((uu.2.1,0),(uu.2.2,0),(sl,bl)) (w2,(w3,0),(w4,0)) _ (ZA ..) hp6 rfl hob uu.1 w1
  rw[if_neg e2] at hgf
  by_cases e3:c.mark=3
  ·rw[if_pos e3] at hgf
   obtain⟨v0,qo,hv1,hv2,hv3,hv4⟩:=hhdl e3
   rw[show hdN c=qo by unfold hdN;rw[hv1];simp[hv3]] at hgf
   have huo:qo<os2.length:=by omega
   obtain⟨pp,FE,ho1,ho2,ho3,ho4⟩:=gX cf cI os2 py hpy huo
   have hrl:(nRg cf os2 py).length=m.store.objects.length:=by rw[eN _ hpy];exact hol2
   unfold acY at hgf
   rw[Za huo] at hgf
   dsimp only at hgf
   have hosu:(os2.set qo (ady os2[qo])).length=m.store.objects.length:=by rw[ZA];exact hol2
   have hmk:∀r,cf (ady os2[qo]) (pp.1,r)=[.int .i64 os2[qo].kind,.int .i64 os2[qo].class_,.ms pp.1.1 pp.1.2 0 os2[qo].fields.length,.ms r.1 r.2 0 3]:=fun _=>rfl
   have hob:∀r,cI (ady os2[qo]) (pp.1,r)=[(pp.1.1,pp.1.2,.row 3 (os2[qo].fields.map (ab.tw 0))),(r.1,r.2,.row 1 (aS [-1,-1,0]))]:=fun _=>rfl
   generalize ady os2[qo]=o' at hgf hosu hmk hob
   generalize os2[qo]=o at hgf ho2 ho3 hmk hob
   have hp9:(nOg cI os2 py).Perm ([(pp.1.1,pp.1.2,.row 3 (o.fields.map (ab.tw 0))),(pp.2.1,pp.2.2,.row 1 (aS o.numbers))]++FE):=ho3
   obtain⟨vk,vn,vt⟩:=v0
   subst hv2 hv3
   have hwl:c.values.length=1:=by rw[hv1];rfl
   have hvr:c.values.map (ab.tw 0)=[[.int .i64 6,.int .i64 (qo:Int),.str vt]]:=by rw[hv1];rfl
   rw[hvr] at hp6 |-
   have hrl2:(nRg cf os2 py).length=(fb m os2 m.contexts m.processes).store.objects.length:=by rw[hrl];exact hol2.symm
   by_cases hcc:o.kind=1/\o.numbers.length=3
   ·rw[if_pos hcc] at hgf
    have hp5:=fun r=>ho4 o' (pp.1,r)
    simp only[hmk,hob] at hp5
    refine aR (agA hp9) ?_
    have hrc:=afc hst s b m y c p ⟨6,qo,vt⟩ hv1 rfl rfl _ hrl o pp ho2 hcc
    generalize nRg cf os2 py=rows at hp5 hrc hrl
    unfold mB mO aM at hrc
    rw[hvr] at hrc
    rw[bg m y] at hrc
    repeat' (first|refine W_ ?_|(refine ak ?_;intro ss bb)|refine ac ?_|((with_reducible apply dh (id:=6) 5);kernel_rfl;kernel_rfl;kernel_rfl;(repeat (first|exact Cut.zero _|apply Cut.succ)))|with_reducible refine dB (by kernel_rfl) (by kernel_rfl) ?_|with_reducible refine eV ?_|with_reducible refine dz ?_|with_reducible refine dC rfl ?_|refine eS rfl rfl rfl rr_ ?_|refine dx rfl rfl rfl rr_ rfl rfl rfl ?_|refine cG rfl rfl rfl rr_ rfl rfl ?_|(refine iH rfl rfl rfl rr_ dd_ ?_)|(refine ir rfl rfl rfl rr_ dd_ ?_)|(refine bX rfl rfl rfl rr_ (fun hg=>?_) (fun hg=>?_))|(refine bF rfl rfl rfl rr_ (fun hg=>?_) (fun hg=>?_))|((with_reducible apply d_y);exact y_;rfl))
    refine ce (af4 _ _ _ _ _ _ _ _ _ _ _ _ _) ?_
    repeat' (first|refine W_ ?_|((with_reducible apply aA);rfl;kernel_rfl;(repeat (first|exact az.nil|((with_reducible apply az.cons);rfl)));exact hG;exact hrc;exact .cons _ _ _ _ (.cons _ _ _ _ (.cons _ _ _ _ (.nil _)));rintro ⟨ss,bb⟩ -;refine bV (objs':=_::_::_::_::_::_) rfl ?_))
    refine ah (k,c.sender,os2.set qo o',py.set qo (pp.1,((ss,bb):Pl))) ⟨by dsimp only;omega,by dsimp only;omega,hosu,by dsimp only;rw[ZA,ZA];exact hpy,hgf⟩ (by dsimp only;omega) (.of _ nw_ od_ ?_)
    dsimp only
    rw[(hp5 (ss,bb)).1]
    exact .trans (ahT (hp5 (ss,bb)).2 hp6) (.sub (.cons_cons _ (.cons_cons _ (.cons_cons _ (.cons_cons _ (.cons _ (YX _)))))))
   ·rw[if_neg hcc] at hgf
    have hrc:=adA hst s b m y c p ⟨6,qo,vt⟩ hv1 rfl rfl _ hrl o pp ho2 hcc
    unfold mB mO aM at hrc
    rw[hvr] at hrc
    rw[bg m y] at hrc
    repeat' (first|refine W_ ?_|(refine ak ?_;intro ss bb)|refine ac ?_|((with_reducible apply dh (id:=6) 5);kernel_rfl;kernel_rfl;kernel_rfl;(repeat (first|exact Cut.zero _|apply Cut.succ)))|with_reducible refine dB (by kernel_rfl) (by kernel_rfl) ?_|with_reducible refine eV ?_|with_reducible refine dz ?_|with_reducible refine dC rfl ?_|refine eS rfl rfl rfl rr_ ?_|refine dx rfl rfl rfl rr_ rfl rfl rfl ?_|refine cG rfl rfl rfl rr_ rfl rfl ?_|(refine iH rfl rfl rfl rr_ dd_ ?_)|(refine ir rfl rfl rfl rr_ dd_ ?_)|(refine bX rfl rfl rfl rr_ (fun hg=>?_) (fun hg=>?_))|(refine bF rfl rfl rfl rr_ (fun hg=>?_) (fun hg=>?_))|((with_reducible apply d_y);exact y_;rfl))
    refine ce (af4 _ _ _ _ _ _ _ _ _ _ _ _ _) ?_
    repeat' (first|refine W_ ?_|((with_reducible apply aA);rfl;kernel_rfl;(repeat (first|exact az.nil|((with_reducible apply az.cons);rfl)));exact hG;exact hrc;exact .cons _ _ _ _ (.cons _ _ _ _ (.cons _ _ _ _ (.nil _)));rintro ⟨⟩ -;refine pQ ?_))
    exact ah (k,c.sender,os2,py) ⟨by dsimp only;omega,by dsimp only;omega,hol2,hpy,hgf⟩ (by dsimp only;omega) (.of _ nw_ od_ (.trans (iC hp6) (.trans (ahh _ _ _ _ _ _ _ _ _ _ _ _) (.sub (.cons_cons _ (.cons_cons _ (.cons_cons _ (.cons _ (YX _)))))))))
  rw[if_neg e3] at hgf
  repeat' (first|refine W_ ?_|(refine ak ?_;intro ss bb)|refine ac ?_)
  refine ah (k,c.sender,os2,py) ⟨by dsimp only;omega,by dsimp only;omega,hol2,hpy,hgf⟩ (by dsimp only;omega) (.of _ nw_ od_ ?_)
  exact .drop (iC hp6)
 simp only[goF,if_neg hin] at hgf
 cases hrr:rr with
 | true =>
   rw[hrr,if_pos rfl] at hgf
   obtain⟨q,rfl⟩:∃q:Nat,wo=q:=by
     refine⟨wo.toNat, ?_⟩
     by_cases h0:0<=wo
     ·omega
     ·rw[rO (by omega)] at hgf;cases hgf
   have hq:q<m.contexts.length:=by omega
   have hodo:=F.mks.odo q hq
   have hsz:=F.small.2.2.2.1.2 _ (Zb hq)
   obtain⟨p,E,hp1,hp2,hp3,hp4⟩:=gX aM bG m.contexts y.2.2.2.1.2 hpx hq
   have hcx:m.contexts[q]?=some m.contexts[q]:=Za hq
   rw[dF hq] at hgf
   dsimp only at hgf
   generalize hc:m.contexts[q]=c at hgf hodo hp2 hp3 hcx hsz
   by_cases e1:c.mark=1
   case neg=>rw[if_neg e1] at hgf;cases hgf
   rw[if_pos e1] at hgf
   simp only[Zo] at hgf
   subst hgf
   obtain⟨a0,b0,v0,hv0,hbk⟩:=hodo e1
   have hwl:c.values.length=3:=by rw[hv0];rfl
   have hvr:c.values.map (ab.tw 0)=[[.int .i64 a0.kind,.int .i64 a0.number,.str a0.text],[.int .i64 b0.kind,.int .i64 b0.number,.str b0.text],[.int .i64 v0.kind,.int .i64 v0.number,.str v0.text]]:=by rw[hv0];rfl
   have hp6:(nOg bG m.contexts y.2.2.2.1.2).Perm ([(p.1.1,p.1.2,.row 3 (c.slots.map (ab.tw 0))),(p.2.1.1,p.2.1.2,.row 3 (c.stack.map (ab.tw 0))),(p.2.2.1,p.2.2.2,.row 3 (c.values.map (ab.tw 0)))]++E):=hp3
   have hrow:(nRg aM m.contexts y.2.2.2.1.2)[q]?=some [.int .i64 c.mark,.int .i64 c.code,.int .i64 c.pc,.int .i64 c.sender,.int .i64 c.outer,.int .i64 c.home,.int .i64 c.self.kind,.int .i64 c.self.number,.str c.self.text,.ms p.1.1 p.1.2 0 c.slots.length,.ms p.2.1.1 p.2.1.2 0 c.stack.length,.ms p.2.2.1 p.2.2.2 0 c.values.length,.int .i64 c.other,.bool c.retry]:=hp2
   rw[hvr] at hp6
   refine aR (q8 hp6) ?_
   unfold mX mO mP blR cdR rdR
   rw[bg m y]
   rcases(show u<0\/(0<=u/\u=(q:Int)) by omega) with h5|⟨h5,h6⟩
   all_goals
    repeat' refine W_ ?_
    refine ce (agJ _ _ _ _ _ _ _ _ _ _ _ _) ?_
    obtain⟨q2,cq,bk,xc,n2,hb⟩:=kv.at_ hbk
    have hca:=mo hst cc s b m y (nRg aM m.contexts y.2.2.2.1.2) hxl (by omega) F.small.2.2.1.1 F.small.1.2.1.1 hy.1.2 m.processes rfl F.now F.prc v0 hb (q:Int)
    unfold mX mB mP at hca
    rw[bg m y] at hca
    repeat' (first|refine W_ ?_|((with_reducible apply aA);rfl;kernel_rfl;(repeat (first|exact az.nil|((with_reducible apply az.cons);rfl)));exact hG;exact hca;exact .cons _ _ _ _ (.cons _ _ _ _ (.cons _ _ _ _ (.cons _ _ _ _ (.cons _ _ _ _ (.nil _)))));rintro ⟨w1,w2,w3,w4⟩ -;refine bV (objs':=_::_::_::_::_::_::_::_::_) rfl ?_))
    have hst2:stP m (m.contexts.length:Int)=m.processes.set np ⟨((m.contexts.length:Nat):Int),pr.main⟩:=by unfold stP;rw[show m.now.toNat=np by rw[F.now];rfl,F.prc]
    have hM:acI m os2 (.agn (q:Int).toNat)=fb m os2 (m.contexts++[gf m v0 (q:Int)]) (m.processes.set np ⟨((m.contexts.length:Nat):Int),pr.main⟩):=by
      show acI m os2 (.agn q)=_
      unfold acI;dsimp only;rw[hcx];dsimp only;rw[hst2,show thV c=v0 by unfold thV;rw[hv0]]
    have hob:bG (gf m v0 (q:Int)) (w2,(w3,0),(w4,0))=[(w2.1,w2.2,.row 3 ((List.replicate n2 zV).map (ab.tw 0))),(w3,0,.row 3 []),(w4,0,.row 3 [])]:=by
      rw[hb.eq];rfl
    refine aZ x_ rfl (y.1,(y.2.1.1,(y.2.1.2.1.1,py),y.2.1.2.2),y.2.2.1,((y.2.2.2.1.1.1,w1),y.2.2.2.1.2++([(w2,(w3,0),(w4,0))]:List (Pl×Pl×Pl))),y.2.2.2.2) ?_ rfl (.app _ R) ?_ rfl
    ·rw[hM]
     exact⟨hy2.1,hy2.2.1,by
       show (y.2.2.2.1.2++_).length=(m.contexts++_).length
       rw[Zh,Zh,hpx];rfl⟩
    ·rw[hM]
     exact acC hol2 (yO y py) R s b hpx (gf m v0 (q:Int)) (w2,(w3,0),(w4,0)) _ (ZA ..) hp6 hob w1
 | false =>
   rw[hrr] at hgf
   rw[if_neg (by simp)] at hgf
   have hlv:=ih k (by omega) os2 (yO y py) r wo v hol2 hy2 hwo hgf
   unfold mX mO mP blR cdR rdR
   rw[show imC m (yO y py)=imC m y from rfl] at hlv
   rw[bg m y] at hlv |-
   rcases(show u<0\/(0<=u/\u=wo) by omega) with h5|⟨h5,h6⟩
   all_goals
    repeat' refine W_ ?_
    refine ce (.drop (cX (fb m os2 m.contexts m.processes) (yO y py) _ R)) ?_
    repeat' (first|refine W_ ?_|((with_reducible apply aA);rfl;kernel_rfl;(repeat (first|exact az.nil|((with_reducible apply az.cons);rfl)));exact hG;exact hlv;exact .app _ _;intro y' hy';refine bV (objs':=_::_) rfl ?_))
    exact aZ x_ rfl y' hy' rfl (.app _ R) (.refl _) rfl
variable {G:World->Prop}
theorem ag2 (hst:ay G) {m:ad} {np:Nat} {pr:ag} (F:MFa m np pr) (cc s b:Nat):∀n,ae1 G m cc s b n/\afJ G m cc s b n:=fun n=>by
 induction n using Nat.strongRecOn with
 | ind n ih=>exact⟨afH hst F cc s b n fun k hk=>(ih k hk).2,adx hst F cc s b n fun k hk=>(ih k hk).1⟩
variable {G:World->Prop}
theorem ahn (hst:ay G) {m:ad} {np:Nat} {pr:ag} (F:MFa m np pr) (s b:Nat):∀n,ahO G m s b n/\aic G m s b n:=fun n=>by
 induction n using Nat.strongRecOn with
 | ind n ih=>exact⟨af7 hst F s b n fun k hk=>(ih k hk).2,afS hst F s b n fun k hk=>(ih k hk).1⟩
def ac7 (x:ad):Prop:=x.contexts.length+x.base.classes.length<=1048576/\∀c∈x.contexts,c.stack.length+x.base.classes.length<=1048576
def tkP (P:ab->Prop):Tk->Prop
 | .giv _ v=>P v
 | .lea _ _ v _=>P v
def acP (P:ab->Prop):Ac->Prop
 | .put _ v=>P v
 | .aft _ v=>P v
 | .unw _ _ v _=>P v
 | .agn _=>True
 | .fin v=>P v
theorem agb {m:ad} {P:ab->Prop} (hc:∀c∈m.contexts,∀u∈c.values,P u) (n:Nat):∀(os:List ar) (t:Tk) (x:List ar×Ac),tkP P t->goF m n os t=some x->acP P x.2:=by
 have hcx:∀{k:Int} {c:ao},cxA m k=some c->∀u∈c.values,P u:=fun h u hu=>by
   obtain⟨_,hk,rfl⟩:=lW h
   exact hc _ (Zb hk) u hu
 induction n with
 | zero=>intro os t x _ h;cases h
 | succ n ih =>
   intro os t x hp h
   cases t with
   | giv t v =>
     simp only[goF] at h
     split at h
     ·cases h;exact hp
     ·split at h
      ·cases h
      ·rename_i c hcc
       split at h
       ·cases h;exact hp
       ·split at h
        ·exact ih _ (.giv c.sender v) _ hp h
        ·split at h
         ·cases h;exact hp
         ·split at h
          ·split at h
           ·exact ih _ (.lea t _ v false) _ hp h
           ·cases h
          ·split at h
           ·split at h
            ·rename_i u hu;exact ih _ (.giv c.sender u) _ (hcx hcc u (by rw[hu];exact Zi)) h
            ·cases h
           ·split at h
            ·split at h
             ·rename_i u hu;exact ih _ (.lea c.sender c.other u c.retry) _ (hcx hcc u (by rw[hu];exact Zi)) h
             ·cases h
            ·cases h
   | lea i wo v r =>
     simp only[goF] at h
     split at h
     ·split at h
      ·cases h
      ·rename_i c hcc
       split at h
       ·cases h;exact hp
       ·exact ih _ (.lea c.sender wo v r) _ hp h
     ·split at h
      ·split at h
       ·split at h
        ·cases h;trivial
        ·cases h
       ·cases h
      ·exact ih _ (.giv wo v) _ hp h
open Classical in
theorem adU {m:ad} (h:da m=true) {q:Int} {x:aB} (hx:cdA m q=some x):x.slots<=30:=by
 have hp:acu m:=of_decide_eq_true h
 obtain⟨h0,hl,he⟩:=nZ hx
 have hvp:d9 m.base:=of_decide_eq_true hp.ver
 obtain⟨o2,_,hk⟩:=hvp.2.2.2.2
 have h6:=(hk _ hl).1.1
 have h8:0<=(m.base.codes[q.toNat]).slots/\(m.base.codes[q.toNat]).slots<=30:=by simpa [inR] using h6
 rw[he] at h8
 exact h8.2
theorem mI {m:ad} (hi:da m=true) (hb:m.small 1048576) (v:ab) (k:Int):(gf m v k).small 1048576:=by
 have hz:(0:Nat)<=1048576:=by omega
 unfold gf
 split
 ·rename_i b hbl
  refine⟨hb.2.2.1.2 b (Zm hbl),⟨?_,fun u hu=>?_⟩,⟨hz,fun u hu=>by cases hu⟩,⟨hz,fun u hu=>by cases hu⟩⟩
  ·show (List.replicate _ zV).length<=_
   rw[Y7]
   split
   ·rename_i x hx
    have:=adU hi hx
    omega
   ·omega
  ·rw[Yx hu]
   exact hz
 ·exact⟨hz,⟨hz,fun u hu=>by cases hu⟩,⟨hz,fun u hu=>by cases hu⟩,⟨hz,fun u hu=>by cases hu⟩⟩
theorem ra (mk sn oth:Int) (r:Bool) {v:ab} (hv:v.small 1048576):(ft mk sn oth r v).small 1048576:=by
 have hz:(0:Nat)<=1048576:=by omega
 refine⟨hz,⟨hz,fun u hu=>by cases hu⟩,⟨hz,fun u hu=>by cases hu⟩,⟨?_,fun u hu=>?_⟩⟩
 ·show (1:Nat)<=_
  omega
 ·rw[List.mem_singleton.1 hu]
  exact hv
theorem tA (m:ad) (k:Int):(stP m k).length=m.processes.length:=by
 unfold stP
 split
 ·exact ZA
 ·rfl
theorem jZ {m:ad} (hb:m.small 1048576) {os:List ar} {cs:List ao} {ps:List ag} (ho:os.length=m.store.objects.length/\∀y∈os,ar.small 1048576 y) (hc:cs.length<=1048576/\∀y∈cs,ao.small 1048576 y) (hp:ps.length=m.processes.length):(fb m os cs ps).small 1048576 :=
 ⟨hb.1,⟨hb.2.1.1,⟨by show os.length<=_;rw[ho.1];exact hb.2.1.2.1.1,ho.2⟩,hb.2.1.2.2⟩,hb.2.2.1,hc,⟨by show ps.length<=_;rw[hp];exact hb.2.2.2.2.1.1,fun _ _=>trivial⟩,hb.2.2.2.2.2⟩
theorem acm {m:ad} (hi:da m=true) (hb:m.small 1048576) (h2:m.contexts.length+2<=1048576) (h1:∀c∈m.contexts,c.stack.length+1<=1048576) {os:List ar} (ho:os.length=m.store.objects.length/\∀y∈os,ar.small 1048576 y) {a:Ac} (ha:acP (fun v=>v.small 1048576) a):(acI m os a).small 1048576:=by
 have hst:(⟨m.store.classes,os,m.store.output,m.store.ticks,m.store.budget,m.store.made⟩:aQ).small 1048576:=⟨hb.2.1.1,⟨by show os.length<=_;rw[ho.1];exact hb.2.1.2.1.1,ho.2⟩,hb.2.1.2.2⟩
 have hcs:=hb.2.2.2.1
 have hap:∀{l:List ao},l.length<=2->(∀y∈l,ao.small 1048576 y)->(m.contexts++l).length<=1048576/\∀y∈m.contexts++l,ao.small 1048576 y:=fun h3 h4=>⟨by rw[Zh];omega,fun y hy=>by
   rcases List.mem_append.1 hy with hy|hy
   ·exact hcs.2 y hy
   ·exact h4 y hy⟩
 cases a with
 | put t v =>
   unfold acI
   dsimp only
   split
   ·rename_i c hc
    have hcm:=Zm hc
    have hcc:=hcs.2 c hcm
    refine jZ hb ho ⟨by rw[ZA];exact hcs.1,fun y hy=>?_⟩ (tA _ _)
    rcases Z7 hy with hy|rfl
    ·exact hcs.2 y hy
    ·refine⟨hcc.1,hcc.2.1,⟨?_,fun u hu=>?_⟩,hcc.2.2.2⟩
     ·show (c.stack++[v]).length<=_
      rw[Zh]
      exact h1 c hcm
     ·rcases List.mem_append.1 hu with hu|hu
      ·exact hcc.2.2.1.2 u hu
      ·rw[List.mem_singleton.1 hu];exact ha
   ·exact hb
 | aft t v =>
   unfold acI
   dsimp only
   split
   ·refine jZ hb ho (hap (Zg _) fun y hy=>?_) (tA _ _)
    rcases List.mem_cons.1 hy with rfl|hy
    ·exact ra _ _ _ _ ha
    ·rw[List.mem_singleton.1 hy];exact mI hi hb _ _
   ·exact hb
 | unw t wo v r =>
   unfold acI
   dsimp only
   split
   ·refine jZ hb ho (hap (Zg _) fun y hy=>?_) (tA _ _)
    rcases List.mem_cons.1 hy with rfl|hy
    ·exact ra _ _ _ _ ha
    ·rw[List.mem_singleton.1 hy];exact mI hi hb _ _
   ·exact hb
 | agn t =>
   unfold acI
   dsimp only
   split
   ·refine jZ hb ho (hap (Nat.le_succ _) fun y hy=>?_) (tA _ _)
    rw[List.mem_singleton.1 hy];exact mI hi hb _ _
   ·exact hb
 | fin v =>
   unfold acI
   dsimp only
   split
   ·split
    ·exact⟨hb.1,hst,hb.2.2.1,hcs,hb.2.2.2.2.1,hb.2.2.2.2.2.1,ha,hb.2.2.2.2.2.2.2⟩
    ·split
     ·exact⟨hb.1,hst,hb.2.2.1,hcs,hb.2.2.2.2.1,Ze _,hb.2.2.2.2.2.2⟩
     ·rename_i k l hr
      refine⟨hb.1,hst,hb.2.2.1,hcs,hb.2.2.2.2.1, ?_,hb.2.2.2.2.2.2⟩
      have:=hb.2.2.2.2.2.1
      rw[hr] at this
      simp at this
      show l.length<=_
      omega
   ·exact hb
open Classical in
theorem zJ {m:ad} (h:da m=true):16<=m.base.classes.length:=by
 have hp:acu m:=of_decide_eq_true h
 have hvp:d9 m.base:=of_decide_eq_true hp.ver
 have hc:ml m.base.classes:=of_decide_eq_true hvp.1
 exact hc.1.1
structure aiv (m:ad) (k:Int) (v:ab) (kn a n:Nat) (c:ao) (p:ag) (x:aB) (r:List ar×Ac):Prop where
 rf:aii m k kn a n c p x
 fit:cD m.store m.blocks.length v=true
 go:∃g,goF m g m.store.objects (.lea p.at_ c.sender v false)=some r
 sl:c.sender<m.contexts.length
 eq:bI m k v=acI m r.1 r.2
open Classical in
theorem o7 {m:ad} {k:Int} {v:ab} (h:cB m k v=true):∃kn a n c p x r,aiv m k v kn a n c p x r:=by
 have h0:=h
 unfold cB at h
 simp only[Zq] at h
 obtain⟨h1,h2,h3,h4⟩:=h
 have hR:dL m k=true:=by unfold dL;rw[h1,h2,h3];rfl
 obtain⟨kn,a,n,c,p,x,hi⟩:=rc hR
 have hfm:afX m k=a:=by unfold afX;rw[hi.kk,ZB,hi.fr];simp
 have hsn:afI m k=c.sender:=by unfold afI;rw[hfm,hi.ctx]
 obtain⟨hal,hac⟩:=List.getElem?_eq_some_iff.1 hi.ctx
 have hsl:c.sender<m.contexts.length:=by
   have:=hi.sen a hal
   rw[hac] at this
   omega
 have hex:=aeF h1 (atN m) (afI m k) v m.store.objects (by rw[hi.at_];exact hi.lt.2) (by rw[hsn];exact hsl)
 have hw:∃g,goF m g m.store.objects (.lea (atN m) (afI m k) v false)=some (agt m (afI m k) v):=by
   unfold agt
   rw[dif_pos hex]
   exact hex.choose_spec
 rw[hi.at_,hsn] at hw
 refine⟨kn,a,n,c,p,x,agt m c.sender v,hi,h4,hw,hsl, ?_⟩
 unfold bI
 rw[if_pos h0,hsn]
theorem gT {m:ad} (hb:m.small 1048576) (hr:ac7 m) (k:Int) {v:ab} (hv:v.small 1048576):(bI m k v).small 1048576:=by
 cases hB:cB m k v with
 | false =>
   unfold bI
   rw[if_neg (by rw[hB];simp)]
   exact abu _
 | true =>
   obtain⟨kn,a,n,c,p,x,r,hi⟩:=o7 hB
   obtain⟨g,hg⟩:=hi.go
   have h16:=zJ hi.rf.img
   obtain⟨hl,hs⟩:=agN g _ _ _ hg
   rw[hi.eq]
   exact acm hi.rf.img hb (by have:=hr.1;omega) (fun c hc=>by have:=hr.2 c hc;omega) ⟨hl,hs hb.2.1.2.1.2⟩ (agb (P:=fun v=>v.small 1048576) (fun c hc u hu=>(hb.2.2.2.1.2 c hc).2.2.2.2 u hu) g _ (.lea p.at_ c.sender v false) _ hv hg)
section
variable {G:World->Prop}
theorem px (hst:ay G) (lo:Nat) (l:List aa) (left:Int) (h:0<=left/\left<=1048576) (hb:l.length<=9223372036854775807/\∀y∈l,aa.small 9223372036854775807 y):CtM Tryz.prog G 66 [.sl lo 3 (l.map (aa.tw lo)),.int .i64 left] [] (fun y:Int=>-1<=y/\y<=left/\(0<=y->y<=left - l.length/\l.length<=1048576/\∀y∈l,aa.small 1048576 y)) (fun _=>[]) (fun y=>.int .i64 y):=by
 refine au Tryz.func66 rfl Tryz.ntmps66 rfl rfl rfl fun w0 R gs objsR hG hR=>?_
 obtain rfl:=hR.inv0
 clear hR
 have hlen:=aa.len lo l
 have hl1:=hb.1
 by_cases hn:left - l.length<0
 ·repeat' refine W_ ?_
  exact aw x_ rfl (-1) ⟨by omega,by omega,fun h=>by omega⟩ rfl (.nil R) (.refl _) (.tmp _ _ rfl) rfl
 ·repeat' refine W_ ?_
  apply ap (X:=Nat×Int) [0,1000000] (fun x=>[(5,.int .i64 (x.1:Int)),(1,.int .i64 x.2)]) (fun _=>R) (fun x=>x.1<=l.length/\0<=x.2/\x.2<=left - l.length/\∀y∈l.take x.1,aa.small 1048576 y) (fun x=>l.length - x.1) (0,left - l.length) ⟨Ze _,by dsimp only;omega,by dsimp only;omega,by simp⟩
  exact kp_;exact nw_
  ·exact .refl _
  rintro ⟨i,lf⟩ ⟨hi,h0,h1,hs⟩
  dsimp only at hi h0 h1 hs |-
  by_cases hlt:i<l.length
  ·have hrow:(l.map (aa.tw lo))[i]?=some (l[i].tw lo):=aK hlt
   have hbi:=hb.2 _ (Zb hlt)
   have hta:=aY (p:=aa.small 1048576) hlt hs
   generalize l[i]=x at hrow hbi hta
   have hct:=ka hst lo x lf (by omega) hbi
   unfold aa.tw at hct
   rw[show x.tw lo=[.str x.name,.int .i64 x.parent,.sl lo 1 (ca x.fields)] from rfl] at hrow
   repeat' (first|refine W_ ?_|((with_reducible apply aA);rfl;kernel_rfl;(repeat (first|exact az.nil|((with_reducible apply az.cons);rfl)));exact hG;exact hct;exact .nil _;intro y hy;refine bT ?_)|refine c_ (fun hc=>?_) (fun hc=>?_))
   all_goals first
     | exact aw x_ rfl (-1) ⟨by omega,by omega,fun h=>by omega⟩ rfl (.nil R) (.refl _) (.tmp _ _ rfl) rfl
     | exact ah (i+1,y) ⟨by dsimp only;omega,by dsimp only;omega,by dsimp only;omega,hta (hy.2.2 (by omega))⟩ (by dsimp only;omega) (.of _ nw_ od_ pk_)
  ·rw[Zc (by omega)] at hs
   repeat' refine W_ ?_
   exact aw x_ rfl lf ⟨by omega,by omega,fun _=>⟨by omega,by omega,hs⟩⟩ rfl (.nil R) (.refl _) (.tmp _ _ rfl) rfl
theorem tp (hst:ay G) (lo:Nat) (x:aF) (left:Int) (h:0<=left/\left<=1048576) (hb:x.small 9223372036854775807):CtM Tryz.prog G 16 [.agg (x.tw lo),.int .i64 left] [] (fun y:Int=>-1<=y/\y<=left/\(0<=y->y<=left - x.classes.length/\x.small 1048576)) (fun _=>[]) (fun y=>.int .i64 y):=by
 refine au Tryz.func16 rfl Tryz.ntmps16 rfl rfl rfl fun w0 R gs objsR hG hR=>?_
 obtain rfl:=hR.inv0
 clear hR
 unfold aF.small at hb
 skip
 unfold aF.tw
 repeat' (first|refine W_ ?_|refine aJ ?_|((with_reducible apply aA);rfl;kernel_rfl;(repeat (first|exact az.nil|((with_reducible apply az.cons);rfl)));exact hG;exact px hst lo x.classes _ (by omega) hb.1;exact .nil _;intro y1 hy1;refine bT ?_)|((with_reducible apply aA);rfl;kernel_rfl;(repeat (first|exact az.nil|((with_reducible apply az.cons);rfl)));exact hG;exact zr hst lo x.codes _ (by omega) hb.2.1;exact .nil _;intro y2 hy2;refine bT ?_)|((with_reducible apply aA);rfl;kernel_rfl;(repeat (first|exact az.nil|((with_reducible apply az.cons);rfl)));exact hG;exact wZ hst lo x.entries _ (by omega) hb.2.2;exact .nil _;intro y3 hy3;refine bT ?_)|refine c_ (fun hc=>?_) (fun hc=>?_))
 all_goals first
   | exact aw x_ rfl (-1) ⟨by omega,by omega,fun h=>by omega⟩ rfl (.nil R) (.refl _) (.tmp _ _ rfl) rfl
   | (refine aw x_ rfl _ ⟨?_, ?_,fun _=>?_⟩ rfl (.nil R) (.refl _) (.tmp _ _ rfl) rfl
      ·omega
      ·omega
      ·have hz1:=hy1.2.2 (by omega);exact⟨by omega,hz1.2,hy2.2.2 (by omega),hy3.2.2 (by omega)⟩)
theorem xv (hst:ay G) (lo:Nat) (l:List ab) (left:Int) (h:0<=left/\left<=1048576) (hb:l.length<=9223372036854775807/\∀y∈l,ab.small 9223372036854775807 y):CtM Tryz.prog G 158 [.sl lo 3 (l.map (ab.tw lo)),.int .i64 left] [] (fun y:Int=>-1<=y/\y<=left/\(0<=y->y<=left - l.length/\l.length<=1048576/\∀y∈l,ab.small 1048576 y)) (fun _=>[]) (fun y=>.int .i64 y):=by
 refine au Tryz.func158 rfl Tryz.ntmps158 rfl rfl rfl fun w0 R gs objsR hG hR=>?_
 obtain rfl:=hR.inv0
 clear hR
 have hlen:=ab.len lo l
 have hl1:=hb.1
 by_cases hn:left - l.length<0
 ·repeat' refine W_ ?_
  exact aw x_ rfl (-1) ⟨by omega,by omega,fun h=>by omega⟩ rfl (.nil R) (.refl _) (.tmp _ _ rfl) rfl
 ·repeat' refine W_ ?_
  apply ap (X:=Nat×Int) [0,1000000] (fun x=>[(5,.int .i64 (x.1:Int)),(1,.int .i64 x.2)]) (fun _=>R) (fun x=>x.1<=l.length/\0<=x.2/\x.2<=left - l.length/\∀y∈l.take x.1,ab.small 1048576 y) (fun x=>l.length - x.1) (0,left - l.length) ⟨Ze _,by dsimp only;omega,by dsimp only;omega,by simp⟩
  exact kp_;exact nw_
  ·exact .refl _
  rintro ⟨i,lf⟩ ⟨hi,h0,h1,hs⟩
  dsimp only at hi h0 h1 hs |-
  by_cases hlt:i<l.length
  ·have hrow:(l.map (ab.tw lo))[i]?=some (l[i].tw lo):=aK hlt
   have hbi:=hb.2 _ (Zb hlt)
   have hta:=aY (p:=ab.small 1048576) hlt hs
   generalize l[i]=x at hrow hbi hta
   have hct:=f9 hst lo x lf (by omega) hbi
   unfold ab.tw at hct
   rw[show x.tw lo=[.int .i64 x.kind,.int .i64 x.number,.str x.text] from rfl] at hrow
   repeat' (first|refine W_ ?_|((with_reducible apply aA);rfl;kernel_rfl;(repeat (first|exact az.nil|((with_reducible apply az.cons);rfl)));exact hG;exact hct;exact .nil _;intro y hy;refine bT ?_)|refine c_ (fun hc=>?_) (fun hc=>?_))
   all_goals first
     | exact aw x_ rfl (-1) ⟨by omega,by omega,fun h=>by omega⟩ rfl (.nil R) (.refl _) (.tmp _ _ rfl) rfl
     | exact ah (i+1,y) ⟨by dsimp only;omega,by dsimp only;omega,by dsimp only;omega,hta (hy.2.2 (by omega))⟩ (by dsimp only;omega) (.of _ nw_ od_ pk_)
  ·rw[Zc (by omega)] at hs
   repeat' refine W_ ?_
   exact aw x_ rfl lf ⟨by omega,by omega,fun _=>⟨by omega,by omega,hs⟩⟩ rfl (.nil R) (.refl _) (.tmp _ _ rfl) rfl
theorem vv (hst:ay G) (lo:Nat) (x:ao) (left:Int) (h:0<=left/\left<=1048576) (hb:x.small 9223372036854775807):CtM Tryz.prog G 72 [.agg (x.tw lo),.int .i64 left] [] (fun y:Int=>-1<=y/\y<=left/\(0<=y->x.stack.length<=left/\x.small 1048576)) (fun _=>[]) (fun y=>.int .i64 y):=by
 refine au Tryz.func72 rfl Tryz.ntmps72 rfl rfl rfl fun w0 R gs objsR hG hR=>?_
 obtain rfl:=hR.inv0
 clear hR
 unfold ao.small at hb
 skip
 unfold ao.tw
 repeat' (first|refine W_ ?_|refine aJ ?_|((with_reducible apply aA);rfl;kernel_rfl;(repeat (first|exact az.nil|((with_reducible apply az.cons);rfl)));exact hG;exact f9 hst lo x.self _ (by omega) hb.1;exact .nil _;intro y1 hy1;refine bT ?_)|((with_reducible apply aA);rfl;kernel_rfl;(repeat (first|exact az.nil|((with_reducible apply az.cons);rfl)));exact hG;exact kw hst lo x.slots _ (by omega) hb.2.1;exact .nil _;intro y2 hy2;refine bT ?_)|((with_reducible apply aA);rfl;kernel_rfl;(repeat (first|exact az.nil|((with_reducible apply az.cons);rfl)));exact hG;exact xv hst lo x.stack _ (by omega) hb.2.2.1;exact .nil _;intro y3 hy3;refine bT ?_)|((with_reducible apply aA);rfl;kernel_rfl;(repeat (first|exact az.nil|((with_reducible apply az.cons);rfl)));exact hG;exact kw hst lo x.values _ (by omega) hb.2.2.2;exact .nil _;intro y4 hy4;refine bT ?_)|refine c_ (fun hc=>?_) (fun hc=>?_))
 all_goals first
   | exact aw x_ rfl (-1) ⟨by omega,by omega,fun h=>by omega⟩ rfl (.nil R) (.refl _) (.tmp _ _ rfl) rfl
   | (refine aw x_ rfl _ ⟨?_, ?_,fun _=>?_⟩ rfl (.nil R) (.refl _) (.tmp _ _ rfl) rfl
      ·omega
      ·omega
      ·have hz3:=hy3.2.2 (by omega);exact⟨by omega,hy1.2.2 (by omega),hy2.2.2 (by omega),hz3.2,hy4.2.2 (by omega)⟩)
theorem rC (hst:ay G) (lo:Nat) (l:List ao) (left:Int) (h:0<=left/\left<=1048576) (hb:l.length<=9223372036854775807/\∀y∈l,ao.small 9223372036854775807 y):CtM Tryz.prog G 19 [.sl lo 14 (l.map (ao.tw lo)),.int .i64 left] [] (fun y:Int=>-1<=y/\y<=left/\(0<=y->l.length<=left/\l.length<=1048576/\∀y∈l,y.stack.length<=left/\ao.small 1048576 y)) (fun _=>[]) (fun y=>.int .i64 y):=by
 refine au Tryz.func19 rfl Tryz.ntmps19 rfl rfl rfl fun w0 R gs objsR hG hR=>?_
 obtain rfl:=hR.inv0
 clear hR
 have hlen:=ao.len lo l
 have hl1:=hb.1
 by_cases hn:left - l.length<0
 ·repeat' refine W_ ?_
  exact aw x_ rfl (-1) ⟨by omega,by omega,fun h=>by omega⟩ rfl (.nil R) (.refl _) (.tmp _ _ rfl) rfl
 ·repeat' refine W_ ?_
  apply ap (X:=Nat×Int) [0,1000000] (fun x=>[(5,.int .i64 (x.1:Int)),(1,.int .i64 x.2)]) (fun _=>R) (fun x=>x.1<=l.length/\0<=x.2/\x.2<=left/\∀y∈l.take x.1,y.stack.length<=left/\ao.small 1048576 y) (fun x=>l.length - x.1) (0,left - l.length) ⟨Ze _,by dsimp only;omega,by dsimp only;omega,by simp⟩
  exact kp_;exact nw_
  ·exact .refl _
  rintro ⟨i,lf⟩ ⟨hi,h0,h1,hs⟩
  dsimp only at hi h0 h1 hs |-
  by_cases hlt:i<l.length
  ·have hrow:(l.map (ao.tw lo))[i]?=some (l[i].tw lo):=aK hlt
   have hbi:=hb.2 _ (Zb hlt)
   have hta:=aY (p:=fun y=>y.stack.length<=left/\ao.small 1048576 y) hlt hs
   generalize l[i]=x at hrow hbi hta
   have hct:=vv hst lo x lf (by omega) hbi
   unfold ao.tw at hct
   rw[show x.tw lo=[.int .i64 x.mark,.int .i64 x.code,.int .i64 x.pc,.int .i64 x.sender,.int .i64 x.outer,.int .i64 x.home,.int .i64 x.self.kind,.int .i64 x.self.number,.str x.self.text,.sl lo 3 (x.slots.map (ab.tw lo)),.sl lo 3 (x.stack.map (ab.tw lo)),.sl lo 3 (x.values.map (ab.tw lo)),.int .i64 x.other,.bool x.retry] from rfl] at hrow
   repeat' (first|refine W_ ?_|((with_reducible apply aA);rfl;kernel_rfl;(repeat (first|exact az.nil|((with_reducible apply az.cons);rfl)));exact hG;exact hct;exact .nil _;intro y hy;refine bT ?_)|refine c_ (fun hc=>?_) (fun hc=>?_))
   all_goals first
     | exact aw x_ rfl (-1) ⟨by omega,by omega,fun h=>by omega⟩ rfl (.nil R) (.refl _) (.tmp _ _ rfl) rfl
     | exact ah (i+1,y) ⟨by dsimp only;omega,by dsimp only;omega,by dsimp only;omega,hta ((hy.2.2 (by omega)).imp (fun h=>by omega) id)⟩ (by dsimp only;omega) (.of _ nw_ od_ pk_)
  ·rw[Zc (by omega)] at hs
   repeat' refine W_ ?_
   exact aw x_ rfl lf ⟨by omega,by omega,fun _=>⟨by omega,by omega,hs⟩⟩ rfl (.nil R) (.refl _) (.tmp _ _ rfl) rfl
theorem zE (hst:ay G) (lo:Nat) (x:ad) (left:Int) (h:0<=left/\left<=1048576) (hb:x.small 9223372036854775807):CtM Tryz.prog G 5 [.agg (x.tw lo),.int .i64 left] [] (fun y:Int=>-1<=y/\y<=left/\(0<=y->ac7 x/\x.small 1048576)) (fun _=>[]) (fun y=>.int .i64 y):=by
 refine au Tryz.func5 rfl Tryz.ntmps5 rfl rfl rfl fun w0 R gs objsR hG hR=>?_
 obtain rfl:=hR.inv0
 clear hR
 unfold ad.small at hb
 have hb8:x.fault.size<=9223372036854775807:=hb.2.2.2.2.2.2.2
 unfold ad.tw
 repeat' (first|refine W_ ?_|refine aJ ?_|((with_reducible apply aA);rfl;kernel_rfl;(repeat (first|exact az.nil|((with_reducible apply az.cons);rfl)));exact hG;exact tp hst lo x.base _ (by omega) hb.1;exact .nil _;intro y1 hy1;refine bT ?_)|((with_reducible apply aA);rfl;kernel_rfl;(repeat (first|exact az.nil|((with_reducible apply az.cons);rfl)));exact hG;exact zb hst lo x.store _ (by omega) hb.2.1;exact .nil _;intro y2 hy2;refine bT ?_)|((with_reducible apply aA);rfl;kernel_rfl;(repeat (first|exact az.nil|((with_reducible apply az.cons);rfl)));exact hG;exact rA hst lo x.blocks _ (by omega) hb.2.2.1;exact .nil _;intro y3 hy3;refine bT ?_)|((with_reducible apply aA);rfl;kernel_rfl;(repeat (first|exact az.nil|((with_reducible apply az.cons);rfl)));exact hG;exact rC hst lo x.contexts _ (by omega) hb.2.2.2.1;exact .nil _;intro y4 hy4;refine bT ?_)|((with_reducible apply aA);rfl;kernel_rfl;(repeat (first|exact az.nil|((with_reducible apply az.cons);rfl)));exact hG;exact rH hst lo x.processes _ (by omega) hb.2.2.2.2.1;exact .nil _;intro y5 hy5;refine bT ?_)|((with_reducible apply aA);rfl;kernel_rfl;(repeat (first|exact az.nil|((with_reducible apply az.cons);rfl)));exact hG;exact uW hst lo x.ready _ (by omega) hb.2.2.2.2.2.1;exact .nil _;intro y6 hy6;refine bT ?_)|((with_reducible apply aA);rfl;kernel_rfl;(repeat (first|exact az.nil|((with_reducible apply az.cons);rfl)));exact hG;exact f9 hst lo x.value _ (by omega) hb.2.2.2.2.2.2.1;exact .nil _;intro y7 hy7;refine bT ?_)|refine c_ (fun hc=>?_) (fun hc=>?_))
 all_goals first
   | exact aw x_ rfl (-1) ⟨by omega,by omega,fun h=>by omega⟩ rfl (.nil R) (.refl _) (.tmp _ _ rfl) rfl
   | (refine aw x_ rfl _ ⟨?_, ?_,fun _=>?_⟩ rfl (.nil R) (.refl _) (.tmp _ _ rfl) rfl
      ·omega
      ·omega
      ·have hz1:=hy1.2.2 (by omega);have hz4:=hy4.2.2 (by omega);exact⟨⟨by omega,fun c hc=>by have:=(hz4.2.2 c hc).1;omega⟩,hz1.2,hy2.2.2 (by omega),hy3.2.2 (by omega),⟨hz4.2.1,fun c hc=>(hz4.2.2 c hc).2⟩,hy5.2.2 (by omega),hy6.2.2 (by omega),hy7.2.2 (by omega),by omega⟩)
end
end Go.Proofs.YtifcomgnmokimaaGreatDoor
