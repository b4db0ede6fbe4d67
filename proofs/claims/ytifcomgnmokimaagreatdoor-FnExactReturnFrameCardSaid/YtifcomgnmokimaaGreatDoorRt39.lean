/- Part 39 of the proof: the texts CpF, ImS. -/
import Derived.Test.YtifcomgnmokimaaGreatDoorRt34
import Derived.Test.YtifcomgnmokimaaGreatDoorRt31
import Derived.Test.YtifcomgnmokimaaGreatDoorRt15
set_option linter.all false
set_option maxHeartbeats 8000000
set_option maxRecDepth 20000
namespace Go.Proofs.YtifcomgnmokimaaGreatDoor
open Go Go.RowKit
theorem adI (sc s3 rd pr bl s2:Nat×Nat×aV) (N S C R:aG):bS (s3::s2::((C++(S++([bl]++((sc::N)++([pr]++[rd])))))++R)) (sc::s3::(N++(rd::pr::bl::(S++(C++(s2::R)))))):=.perm (by
 have h:=bA (n:=10) [[sc],[s3],N,[rd],[pr],[bl],S,C,[s2],R] [1,8,7,6,5,0,2,4,3,9] rfl (by decide)
 simpa using h)
theorem abf (sc s3 s2 bl:Nat×Nat×aV) (N S C R:aG):bS (s3::s2::sc::bl::(N++(S++(C++R)))) (sc::s3::(N++(s2::bl::(S++(C++R))))):=.perm (by
 have h:=bA (n:=8) [[sc],[s3],N,[s2],[bl],S,C,R] [1,3,0,4,2,5,6,7] rfl (by decide)
 simpa using h)
theorem abz (sc s3 s2 bl pr rd:Nat×Nat×aV) (N S C R:aG):bS ((C++(S++([bl]++((sc::N)++([pr]++[rd])))))++R) (rd::pr::s3::s2::sc::bl::(N++(S++(C++R)))):=.trans (.drop (x:=s3) (.drop (x:=s2) (.refl _))) (.perm (by
 have h:=bA (n:=10) [[rd],[pr],[s3],[s2],[sc],[bl],N,S,C,R] [2,3,8,7,5,4,6,1,0,9] rfl (by decide)
 simpa using h))
def bxI (x:ad) (b:CbP) (s:StP) (sb bb:Nat) (t u v:TV):List TV:=[.ms b.1.1.1 b.1.1.2 0 x.base.classes.length,.ms b.2.1.1.1 b.2.1.1.2 0 x.base.codes.length,.ms b.2.2.1 b.2.2.2 0 x.base.entries.length,.int .i64 x.base.main,.ms s.1.1.1 s.1.1.2 0 x.store.classes.length,.ms s.2.1.1.1 s.2.1.1.2 0 x.store.objects.length,.ms s.2.2.1 s.2.2.2 0 x.store.output.length,.int .i64 x.store.ticks,.int .i64 x.store.budget,.int .i64 x.store.made,.ms sb bb 0 x.blocks.length,t,u,v,.int .i64 x.now,.int .i64 x.status,.int .i64 x.value.kind,.int .i64 x.value.number,.str x.value.text,.str x.fault]
section
variable {G:World->Prop}
theorem nC (hst:ay G) (f lo:Nat) (x:aQ) (hb:x.small 1048576):CtM Tryz.prog G 127 [.cp f (x.tw lo)] [] (stI x) (stO x) (fun y=>.agg (stC x y)):=by
 refine au Tryz.func127 rfl Tryz.ntmps127 rfl rfl rfl fun w0 R gs objsR hG hR=>?_
 obtain rfl:=hR.inv0
 clear hR
 have c1:=hH hst lo x.classes hb.1
 have n1:=fun(y:(Nat×Nat)×List (Nat×Nat)) (_:y.2.length=x.classes.length)=>iP (m:=3) (s:=y.1.1) (b:=y.1.2) (n:=x.classes.length) iK iB x.classes y.2
 have hel:=cg x.output
 have he1:=hb.2.2.1
 unfold aQ.tw
 repeat' (first|refine W_ ?_|(refine ak ?_;intro ss bb)|((with_reducible apply dX (id:=1) 25);kernel_rfl;kernel_rfl;kernel_rfl;rfl;(repeat (first|exact Cut.zero _|apply Cut.succ)))|((with_reducible apply m_q);exact ym_;rfl;exact ez)|((with_reducible apply cA);rfl;(intro p;try dsimp only);(repeat (first|exact TB.nil _|((with_reducible apply TB.cons);rfl;rfl;(first|exact .nil _|exact .put _ _ _ _ _ (.nil _)|exact .skip _ _ _ _ _ (.put _ _ _ _ _ (.nil _))|exact .skip _ _ _ _ _ (.skip _ _ _ _ _ (.put _ _ _ _ _ (.nil _)))|(repeat (first|exact .nil _|apply aW.put|apply aW.skip)));kernel_rfl)));rfl;kernel_rfl;kernel_rfl;exact ez)|((with_reducible apply gm);rfl;rfl;kernel_rfl)|((with_reducible apply uw);(intro p;rfl);rfl;kernel_rfl;kernel_rfl;rfl;kernel_rfl;rfl;rfl;rfl;rfl)|((with_reducible apply nk);(intro p;rfl);(intro p;rfl);rfl;kernel_rfl;(intro p;rfl);(first|with_reducible assumption|exact aI _|exact aj _|exact aH _|exact Zf _|assumption|rfl);omega;exact⟨by decide,ah_⟩;rfl;(focus (simp;done)))|((with_reducible apply gy hG hst c1);rfl;kernel_rfl;(intro p;(repeat (first|exact bU.nil|((with_reducible apply bU.cons);rfl;exact .same _))));exact n1)|(with_reducible refine DM.nil _ _ _ ?_))
 generalize ss=s2;generalize bb=b2
 intro p hp
 simp only[Yr] at hp
 obtain⟨_,_,_,hI,_⟩:=hp
 refine bV (objs':=((p 24).a,(p 24).b,.box [.nils,.nils,.nils,.int .i64 0,.int .i64 0,.int .i64 0])::((p 5).a,(p 10).b,.row 1 (ca x.output))::(rk x.classes (Enc.dec (p 4))++((s2,b2,.box [.nils,.nils,.nils,.int .i64 0,.int .i64 0,.int .i64 0])::R))) (by rw[show et _=[_,_,_] from rfl];simp only[ZC,ZK,Zt,Zk,ZF,Zx];(try rfl)) ?_
 dsimp only [Nat.reduceAdd] at hI |-
 generalize (Enc.dec (p 4):(Nat×Nat)×List (Nat×Nat))=yc at hI |-
 generalize Yu.a (p 24)=s3
 generalize Yu.b (p 24)=b3
 generalize Yu.a (p 5)=se
 generalize Yu.b (p 10)=be
 have hcl:=ar.len lo x.objects
 have hc1:=hb.2.1.1
 have hsm:=hb.2.1.2
 repeat' (first|refine W_ ?_|refine ac ?_)
 refine pW 1 4 (by decide) rfl fun sc=>?_
 obtain⟨RR,hRR⟩:∃RR:aG,RR=((se,be,.row 1 (ca x.output))::(rk x.classes yc++((s2,b2,aV.box [.nils,.nils,.nils,.int .i64 0,.int .i64 0,.int .i64 0])::R))):=⟨_,rfl⟩
 refine aR (objs':=(sc,0,.row 4 [])::(s3,b3,.box [.ms yc.1.1 yc.1.2 0 x.classes.length,.ms sc 0 0 0,.ms se be 0 x.output.length,.int .i64 x.ticks,.int .i64 x.budget,.int .i64 x.made])::RR) (by rw[hRR];exact pk_) ?_
 apply ap (X:=Nat×Nat×List (Pl×Pl)) [0,2,3,1000000] (fun y=>[(4,.int .i64 (y.1:Int))])
   (fun y=>(sc,y.2.1,.row 4 (nRg cf (x.objects.take y.1) y.2.2))::(s3,b3,.box [.ms yc.1.1 yc.1.2 0 x.classes.length,.ms sc y.2.1 0 y.1,.ms se be 0 x.output.length,.int .i64 x.ticks,.int .i64 x.budget,.int .i64 x.made])::(nOg cI (x.objects.take y.1) y.2.2++RR))
   (fun y=>y.1<=x.objects.length/\y.2.2.length=y.1) (fun y=>x.objects.length - y.1) (0,0,[]) ⟨Ze _,rfl⟩
 exact kp_;exact nw_
 ·exact .refl _
 rintro ⟨i,bc,ps⟩ ⟨hi,hps⟩
 dsimp only at hi hps |-
 by_cases hlt:i<x.objects.length
 ·have hrs:=fun p=>n9 cf hlt hps p
  have hos:=fun p=>jX cI hlt hps p
  have hra:(x.objects.map (ar.tw lo))[i]?=some (x.objects[i].tw lo):=aK hlt
  have hrl:(nRg cf (x.objects.take i) ps).length=i:=by rw[eN _ (by rw[Zu];omega),Zu];omega
  have hbi:=hsm _ (Zb hlt)
  generalize x.objects[i]=c at hrs hos hra hbi
  rw[show c.tw lo=[.int .i64 c.kind,.int .i64 c.class_,.sl lo 3 (c.fields.map (ab.tw lo)),.sl lo 1 (aS c.numbers)] from rfl] at hra
  have hf1:=hbi.1.1
  have hf2:=hbi.2
  generalize nOg cI (x.objects.take i) ps=T at hos |-
  repeat' (first|refine W_ ?_|(refine ak ?_;intro ss bb)|refine ac ?_)
  generalize ss=s5;generalize bb=b5
  refine aR (.perm (List.Perm.swap _ _ _)) ?_
  repeat' (first|refine W_ ?_|((with_reducible apply fm (id:=6) 18);kernel_rfl;kernel_rfl;kernel_rfl;rfl;(repeat (first|exact Cut.zero _|apply Cut.succ)))|((with_reducible apply m_q);exact ym_;rfl;exact ez)|((with_reducible apply cA);rfl;(intro p;try dsimp only);(repeat (first|exact TB.nil _|((with_reducible apply TB.cons);rfl;rfl;(first|exact .nil _|exact .put _ _ _ _ _ (.nil _)|exact .skip _ _ _ _ _ (.put _ _ _ _ _ (.nil _))|exact .skip _ _ _ _ _ (.skip _ _ _ _ _ (.put _ _ _ _ _ (.nil _)))|(repeat (first|exact .nil _|apply aW.put|apply aW.skip)));kernel_rfl)));rfl;kernel_rfl;kernel_rfl;exact ez)|((with_reducible apply nk);(intro p;rfl);(intro p;rfl);rfl;kernel_rfl;(intro p;rfl);(first|with_reducible assumption|exact aI _|exact aj _|exact aH _|exact Zf _|assumption|rfl);omega;exact⟨by decide,ah_⟩;rfl;(focus (simp;done)))|((with_reducible apply uw (n:=0));(intro p;rfl);rfl;kernel_rfl;kernel_rfl;rfl;kernel_rfl;rfl;rfl;rfl;rfl)|((with_reducible apply jh);(intro p;rfl);rfl;kernel_rfl;kernel_rfl;rfl;kernel_rfl;rfl;(intro p;rfl);rfl;(intro p;rfl);exact ez)|((with_reducible apply kj);(intro p;rfl);(intro p;rfl);rfl;kernel_rfl;(intro p;rfl);exact hrl;(intro p;show List.length _=1;rfl);omega;exact fun p=>hrs (((p 6).a,(p 9).b),((p 10).a,(p 13).b));exact⟨by decide,by decide⟩;exact im;rfl;(focus (simp;done)))|(with_reducible refine DM.nil _ _ _ ?_))
  intro p hp
  refine bV (objs':=(sc,(p 16).b,.row 4 (nRg cf (x.objects.take (i+1)) (ps++([(((p 6).a,(p 9).b),((p 10).a,(p 13).b))]:List (Pl×Pl)))))::((p 10).a,(p 13).b,.row 1 (aS c.numbers))::((p 6).a,(p 9).b,.row 3 (c.fields.map (ab.tw 0)))::(s5,b5,.box [.int .i64 c.kind,.int .i64 c.class_,.sl lo 3 (c.fields.map (ab.tw lo)),.sl lo 1 (aS c.numbers)])::(s3,b3,.box [.ms yc.1.1 yc.1.2 0 x.classes.length,.ms sc bc 0 i,.ms se be 0 x.output.length,.int .i64 x.ticks,.int .i64 x.budget,.int .i64 x.made])::(T++RR)) (by rw[show et _=[_,_,_] from rfl];(try simp only[ZC,ZK,Zt,Zk,ZF,Zx]);(try rfl)) ?_
  dsimp only [Nat.reduceAdd] at hp |-
  generalize Yu.a (p 6)=sf
  generalize Yu.b (p 9)=bf
  generalize Yu.a (p 10)=sn
  generalize Yu.b (p 13)=bn
  generalize Yu.b (p 16)=bb
  repeat' (first|refine W_ ?_|refine ac ?_)
  refine ah (i+1,bb,ps++([((sf,bf),(sn,bn))]:List (Pl×Pl))) ⟨by dsimp only;omega,by dsimp only;simp[hps]⟩ (by dsimp only;omega) (.of _ nw_ od_ ?_)
  dsimp only
  rw[hos ((sf,bf),(sn,bn))]
  refine bS.trans (jV _ _ (cI c ((sf,bf),(sn,bn))) T RR) (bS.trans (.perm ((List.Perm.swap _ _ _).cons _)) ?_)
  exact .sub (.cons_cons _ (.cons_cons _ (.cons_cons _ (.cons _ (YX _)))))
 ·obtain rfl:i=x.objects.length:=by omega
  rw[Zc (Zg _),hRR]
  refine aR (abq _ _ _ _ _ _ _) ?_
  repeat' (first|refine W_ ?_|refine ac ?_)
  exact aw (t1:=.agg [.ms yc.1.1 yc.1.2 0 x.classes.length,.ms sc bc 0 x.objects.length,.ms se be 0 x.output.length,.int .i64 x.ticks,.int .i64 x.budget,.int .i64 x.made]) x_ rfl (yc,((sc,bc),ps),(se,be)) ⟨hI,hps⟩ rfl (.app _ R) (.drop (.drop (.perm (abW _ _ _ _ R)))) (.cell _ _ _ _ _ rfl mm_ (by kernel_rfl) (by kernel_rfl) (by kernel_rfl)) rfl
theorem wV (hst:ay G) (f lo:Nat) (x:ad) (hb:x.small 1048576):CtM Tryz.prog G 46 [.cp f (x.tw lo)] [] (imI x) (imO x) (fun y=>.agg (imC x y)):=by
 refine au Tryz.func46 rfl Tryz.ntmps46 rfl rfl rfl fun w0 R gs objsR hG hR=>?_
 obtain rfl:=hR.inv0
 clear hR
 have c0:=wG hst 0 lo x.base hb.1
 have n0:=fun(y:CbP) (_:cbI x.base y)=>aea x.base y
 have c1:=nC hst 0 lo x.store hb.2.1
 have n1:=fun(y:StP) (_:stI x.store y)=>(⟨(abA x.store y).1,.agg _ (abA x.store y).2⟩:(∀s b o,(s,b,o)∈stO x.store y->cE (stO x.store y) o)/\dY (stO x.store y) (.agg (stC x.store y)))
 have l1:=aq.len lo x.blocks
 have l2:=ag.len lo x.processes
 have l3:=aj x.ready
 have k1:=hb.2.2.1.1
 have k2:=hb.2.2.2.2.1.1
 have k3:=hb.2.2.2.2.2.1
 unfold aF.tw at c0
 unfold aQ.tw at c1
 unfold cbC at c0 n0
 unfold stC at c1 n1
 unfold ad.tw
 repeat' (first|refine W_ ?_|(refine ak ?_;intro ss bb)|((with_reducible apply dX (id:=1) 44);kernel_rfl;kernel_rfl;kernel_rfl;rfl;(repeat (first|exact Cut.zero _|apply Cut.succ)))|((with_reducible apply m_q);exact ym_;rfl;exact ez)|((with_reducible apply cA);rfl;(intro p;try dsimp only);(repeat (first|exact TB.nil _|((with_reducible apply TB.cons);rfl;rfl;(first|exact .nil _|exact .put _ _ _ _ _ (.nil _)|exact .skip _ _ _ _ _ (.put _ _ _ _ _ (.nil _))|exact .skip _ _ _ _ _ (.skip _ _ _ _ _ (.put _ _ _ _ _ (.nil _)))|(repeat (first|exact .nil _|apply aW.put|apply aW.skip)));kernel_rfl)));rfl;kernel_rfl;kernel_rfl;exact ez)|((with_reducible apply gm);rfl;rfl;kernel_rfl)|((with_reducible apply uw);(intro p;rfl);rfl;kernel_rfl;kernel_rfl;rfl;kernel_rfl;rfl;rfl;rfl;rfl)|((with_reducible apply nk);(intro p;rfl);(intro p;rfl);rfl;kernel_rfl;(intro p;rfl);(first|with_reducible assumption|exact aI _|exact aj _|exact aH _|exact Zf _|assumption|rfl);omega;exact⟨by decide,ah_⟩;rfl;(focus (simp;done)))|((with_reducible apply gy hG hst c0);rfl;kernel_rfl;(intro p;(repeat (first|exact bU.nil|((with_reducible apply bU.cons);rfl;(first|with_reducible exact cy.same _|((with_reducible apply cy.msAll);(repeat (first|with_reducible exact mh|with_reducible refine mt ?_));(first|with_reducible assumption|exact aI _|exact aj _|exact aH _|exact Zf _|assumption|rfl))|((with_reducible apply dS);(repeat (first|with_reducible exact mh|with_reducible refine mt ?_));(first|with_reducible assumption|exact aI _|exact aj _|exact aH _|exact Zf _|assumption|rfl))|((with_reducible apply cy.cut);exact cy.cp0 _ _;rfl))))));exact n0)|((with_reducible apply gy hG hst c1);rfl;kernel_rfl;(intro p;(repeat (first|exact bU.nil|((with_reducible apply bU.cons);rfl;(first|with_reducible exact cy.same _|((with_reducible apply cy.msAll);(repeat (first|with_reducible exact mh|with_reducible refine mt ?_));(first|with_reducible assumption|exact aI _|exact aj _|exact aH _|exact Zf _|assumption|rfl))|((with_reducible apply dS);(repeat (first|with_reducible exact mh|with_reducible refine mt ?_));(first|with_reducible assumption|exact aI _|exact aj _|exact aH _|exact Zf _|assumption|rfl))|((with_reducible apply cy.cut);exact cy.cp0 _ _;rfl))))));exact n1)|(with_reducible refine DM.nil _ _ _ ?_))
 generalize ss=s2;generalize bb=b2
 intro p hp
 simp only[Yr] at hp
 obtain⟨_,_,_,_,_,_,_,hS,hB,_⟩:=hp
 refine bV (objs':=((p 43).a,(p 43).b,.box [.nils,.nils,.nils,.int .i64 0,.nils,.nils,.nils,.int .i64 0,.int .i64 0,.int .i64 0,.nils,.nils,.nils,.nils,.int .i64 0,.int .i64 0,.int .i64 0,.int .i64 0,.str ⟨#[]⟩,.str ⟨#[]⟩])::((p 20).a,(p 25).b,.row 1 (aS x.ready))::((p 14).a,(p 19).b,.row 2 (x.processes.map (ag.tw lo)))::((p 8).a,(p 13).b,.row 6 (x.blocks.map (aq.tw lo)))::(stO x.store (Enc.dec (p 7))++(cbO x.base (Enc.dec (p 3))++((s2,b2,.box [.nils,.nils,.nils,.int .i64 0,.nils,.nils,.nils,.int .i64 0,.int .i64 0,.int .i64 0,.nils,.nils,.nils,.nils,.int .i64 0,.int .i64 0,.int .i64 0,.int .i64 0,.str ⟨#[]⟩,.str ⟨#[]⟩])::R)))) (by rw[show et _=[_,_,_,_,_,_] from rfl];simp only[ZC,ZK,Zt,Zk,ZF,Zx];(try rfl)) ?_
 dsimp only [Nat.reduceAdd] at hS hB |-
 generalize (Enc.dec (p 7):StP)=ys at hS |-
 generalize (Enc.dec (p 3):CbP)=yb at hB |-
 generalize Yu.a (p 43)=s3
 generalize Yu.b (p 43)=b3
 generalize Yu.a (p 20)=sr
 generalize Yu.b (p 25)=br
 generalize Yu.a (p 14)=sp
 generalize Yu.b (p 19)=bp
 generalize Yu.a (p 8)=sb
 generalize Yu.b (p 13)=bb0
 have hcl:=ao.len lo x.contexts
 have hc1:=hb.2.2.2.1.1
 have hsm:=hb.2.2.2.1.2
 repeat' (first|refine W_ ?_|refine ac ?_)
 refine pW 11 14 (by decide) rfl fun sc=>?_
 dsimp only [List.set]
 obtain⟨RR,hRR⟩:∃RR:aG,RR=((sr,br,.row 1 (aS x.ready))::(sp,bp,.row 2 (x.processes.map (ag.tw 0)))::(sb,bb0,.row 6 (x.blocks.map (aq.tw 0)))::(stO x.store ys++(cbO x.base yb++((s2,b2,aV.box [.nils,.nils,.nils,.int .i64 0,.nils,.nils,.nils,.int .i64 0,.int .i64 0,.int .i64 0,.nils,.nils,.nils,.nils,.int .i64 0,.int .i64 0,.int .i64 0,.int .i64 0,.str ⟨#[]⟩,.str ⟨#[]⟩])::R)))):=⟨_,rfl⟩
 refine aR (objs':=(sc,0,.row 14 [])::(s3,b3,.box (bxI x yb ys sb bb0 (.ms sc 0 0 0) (.ms sp bp 0 x.processes.length) (.ms sr br 0 x.ready.length)))::RR) (by rw[hRR];exact .perm (List.Perm.swap _ _ _)) ?_
 apply ap (X:=Nat×Nat×List (Pl×Pl×Pl)) [0,2,3,1000000] (fun y=>[(4,.int .i64 (y.1:Int))])
   (fun y=>(sc,y.2.1,.row 14 (nRg aM (x.contexts.take y.1) y.2.2))::(s3,b3,.box (bxI x yb ys sb bb0 (.ms sc y.2.1 0 y.1) (.ms sp bp 0 x.processes.length) (.ms sr br 0 x.ready.length)))::(nOg bG (x.contexts.take y.1) y.2.2++RR))
   (fun y=>y.1<=x.contexts.length/\y.2.2.length=y.1) (fun y=>x.contexts.length - y.1) (0,0,[]) ⟨Ze _,rfl⟩
 exact kp_;exact nw_
 ·exact .refl _
 rintro ⟨i,bc,ps⟩ ⟨hi,hps⟩
 dsimp only at hi hps |-
 unfold bxI
 by_cases hlt:i<x.contexts.length
 ·have hrs:=fun p=>n9 aM hlt hps p
  have hos:=fun p=>jX bG hlt hps p
  have hra:(x.contexts.map (ao.tw lo))[i]?=some (x.contexts[i].tw lo):=aK hlt
  have hrl:(nRg aM (x.contexts.take i) ps).length=i:=by rw[eN _ (by rw[Zu];omega),Zu];omega
  have hbi:=hsm _ (Zb hlt)
  generalize x.contexts[i]=c at hrs hos hra hbi
  rw[show c.tw lo=[.int .i64 c.mark,.int .i64 c.code,.int .i64 c.pc,.int .i64 c.sender,.int .i64 c.outer,.int .i64 c.home,.int .i64 c.self.kind,.int .i64 c.self.number,.str c.self.text,.sl lo 3 (c.slots.map (ab.tw lo)),.sl lo 3 (c.stack.map (ab.tw lo)),.sl lo 3 (c.values.map (ab.tw lo)),.int .i64 c.other,.bool c.retry] from rfl] at hra
  have c2:=lw (G:=G) lo c hbi
  have n2:=fun(y:Pl×Pl×Pl) (_:True)=>yo c y
  generalize nOg bG (x.contexts.take i) ps=T at hos |-
  repeat' (first|refine W_ ?_|((with_reducible apply fm (id:=5) 13);kernel_rfl;kernel_rfl;kernel_rfl;rfl;(repeat (first|exact Cut.zero _|apply Cut.succ)))|((with_reducible apply m_q);exact ym_;rfl;exact ez)|((with_reducible apply cA);rfl;(intro p;try dsimp only);(repeat (first|exact TB.nil _|((with_reducible apply TB.cons);rfl;rfl;(first|exact .nil _|exact .put _ _ _ _ _ (.nil _)|exact .skip _ _ _ _ _ (.put _ _ _ _ _ (.nil _))|exact .skip _ _ _ _ _ (.skip _ _ _ _ _ (.put _ _ _ _ _ (.nil _)))|(repeat (first|exact .nil _|apply aW.put|apply aW.skip)));kernel_rfl)));rfl;kernel_rfl;kernel_rfl;exact ez)|((with_reducible apply jh);(intro p;rfl);rfl;kernel_rfl;kernel_rfl;rfl;kernel_rfl;rfl;(intro p;rfl);rfl;(intro p;rfl);exact ez)|((with_reducible apply gy hG hst c2);rfl;kernel_rfl;(intro p;(repeat (first|exact bU.nil|((with_reducible apply bU.cons);rfl;exact .same _))));exact n2)|((with_reducible apply kj);(intro p;rfl);(intro p;rfl);rfl;kernel_rfl;(intro p;rfl);exact hrl;(intro p;show List.length _=1;rfl);omega;exact fun p=>hrs (Enc.dec (p _));exact⟨by decide,by decide⟩;exact im;rfl;(focus (simp;done)))|(with_reducible refine DM.nil _ _ _ ?_))
  intro p hp
  refine bV (objs':=(sc,(p 11).b,.row 14 (nRg aM (x.contexts.take (i+1)) (ps++[Enc.dec (p 9)])))::(bG c (Enc.dec (p 9))++((s3,b3,.box (bxI x yb ys sb bb0 (.ms sc bc 0 i) (.ms sp bp 0 x.processes.length) (.ms sr br 0 x.ready.length)))::(T++RR)))) (by rw[show et _=[_,_] from rfl];(try simp only[ZC,ZK,Zt,Zk,ZF,Zx]);(try rfl)) ?_
  unfold bxI
  dsimp only [Nat.reduceAdd] at hp |-
  generalize (Enc.dec (p 9):Pl×Pl×Pl)=q
  generalize Yu.b (p 11)=bb
  refine bV (objs':=_::(q.1.1,q.1.2,.row 3 (c.slots.map (ab.tw 0)))::(q.2.1.1,q.2.1.2,.row 3 (c.stack.map (ab.tw 0)))::(q.2.2.1,q.2.2.2,.row 3 (c.values.map (ab.tw 0)))::(s3,b3,_)::_) rfl ?_
  repeat' (first|refine W_ ?_|refine ac ?_)
  refine ah (i+1,bb,ps++[q]) ⟨by dsimp only;omega,by dsimp only;simp[hps]⟩ (by dsimp only;omega) (.of _ nw_ od_ ?_)
  dsimp only
  rw[hos q]
  exact jV _ _ (bG c q) T RR
 ·obtain rfl:i=x.contexts.length:=by omega
  rw[Zc (Zg _),hRR]
  refine aR (adI _ _ _ _ _ _ _ _ _ _) ?_
  repeat' (first|refine W_ ?_|refine ac ?_)
  exact aw (t1:=.agg [.ms yb.1.1.1 yb.1.1.2 0 x.base.classes.length,.ms yb.2.1.1.1 yb.2.1.1.2 0 x.base.codes.length,.ms yb.2.2.1 yb.2.2.2 0 x.base.entries.length,.int .i64 x.base.main,.ms ys.1.1.1 ys.1.1.2 0 x.store.classes.length,.ms ys.2.1.1.1 ys.2.1.1.2 0 x.store.objects.length,.ms ys.2.2.1 ys.2.2.2 0 x.store.output.length,.int .i64 x.store.ticks,.int .i64 x.store.budget,.int .i64 x.store.made,.ms sb bb0 0 x.blocks.length,.ms sc bc 0 x.contexts.length,.ms sp bp 0 x.processes.length,.ms sr br 0 x.ready.length,.int .i64 x.now,.int .i64 x.status,.int .i64 x.value.kind,.int .i64 x.value.number,.str x.value.text,.str x.fault]) x_ rfl (yb,ys,(sb,bb0),((sc,bc),ps),(sp,bp),(sr,br)) ⟨hB,hS,hps⟩ rfl (.app _ R) (.drop (.drop (.refl _))) (.cell _ _ _ _ _ rfl mm_ (by kernel_rfl) (by kernel_rfl) (by kernel_rfl)) rfl
theorem iF (hst:ay G) (lo:Nat) (x:ad) (hb:x.small 1048576):CtM Tryz.prog G 51 [.agg (x.tw lo)] [] (imI x) (imO x) (fun y=>.agg (imC x y)):=by
 refine au Tryz.func51 rfl Tryz.ntmps51 rfl rfl rfl fun w0 R gs objsR hG hR=>?_
 obtain rfl:=hR.inv0
 clear hR
 have c0:=nF hst lo x.base hb.1
 have c1:=tt hst lo x.store hb.2.1
 have l1:=aq.len lo x.blocks
 have l2:=ag.len lo x.processes
 have l3:=aj x.ready
 have k1:=hb.2.2.1.1
 have k2:=hb.2.2.2.2.1.1
 have k3:=hb.2.2.2.2.2.1
 have hcl:=ao.len lo x.contexts
 have hc1:=hb.2.2.2.1.1
 have hsm:=hb.2.2.2.1.2
 unfold aF.tw cbC at c0
 unfold aQ.tw stC at c1
 unfold ad.tw
 repeat' (first|refine H_ 4 ?_|refine aJ ?_|(refine ak ?_;intro ss bb)|refine ac ?_|((with_reducible apply aA);rfl;kernel_rfl;(repeat (first|exact az.nil|((with_reducible apply az.cons);rfl)));exact hG;exact c0;exact .nil _;intro yb hB;refine cL (jx _ _ _ _) ?_)|((with_reducible apply aA);rfl;kernel_rfl;(repeat (first|exact az.nil|((with_reducible apply az.cons);rfl)));exact hG;exact c1;exact .nil _;intro ys hS;refine cL (jx _ _ _ _) ?_))
 refine⟨?_⟩
 rename_i s2 b2
 generalize ss=s3;generalize bb=b3
 repeat' (first|refine H_ 5 ?_|refine ac ?_|((with_reducible apply jn (n:=0));rfl;rfl;kernel_rfl;kernel_rfl;rfl;kernel_rfl;rfl;rfl;rfl;rfl;intro ss bb)|((with_reducible apply dN);rfl;rfl;rfl;kernel_rfl;(repeat (first|with_reducible exact mh|with_reducible refine mt ?_));(first|with_reducible assumption|exact aI _|exact aj _|exact aH _|exact Zf _|assumption|rfl);omega;(intro bq;(repeat (first|with_reducible exact Upd.head _|with_reducible apply Upd.tail)));intro bb))
 refine⟨?_⟩
 generalize ss=sb;generalize bb=bb0
 repeat' (first|refine W_ ?_|refine ac ?_|(refine jz ?_;intro ss bb))
 generalize ss=sc;generalize bb=bc0
 obtain⟨RR,hRR⟩:∃RR:aG,RR=((s2,b2,aV.box [.nils,.nils,.nils,.int .i64 0,.nils,.nils,.nils,.int .i64 0,.int .i64 0,.int .i64 0,.nils,.nils,.nils,.nils,.int .i64 0,.int .i64 0,.int .i64 0,.int .i64 0,.str ⟨#[]⟩,.str ⟨#[]⟩])::(sb,bb0,.row 6 (x.blocks.map (aq.tw 0)))::(stO x.store ys++(cbO x.base yb++R))):=⟨_,rfl⟩
 refine aR (objs':=(sc,bc0,.row 14 [])::(s3,b3,.box (bxI x yb ys sb bb0 (.ms sc bc0 0 0) (.sl lo 2 (x.processes.map (ag.tw lo))) (.sl lo 1 (aS x.ready))))::RR) (by rw[hRR];exact pk_) ?_
 apply ap (X:=Nat×Nat×List (Pl×Pl×Pl)) [1,2,3,23,24,1000000] (fun y=>[(25,.int .i64 (y.1:Int))])
   (fun y=>(sc,y.2.1,.row 14 (nRg aM (x.contexts.take y.1) y.2.2))::(s3,b3,.box (bxI x yb ys sb bb0 (.ms sc y.2.1 0 y.1) (.sl lo 2 (x.processes.map (ag.tw lo))) (.sl lo 1 (aS x.ready))))::(nOg bG (x.contexts.take y.1) y.2.2++RR))
   (fun y=>y.1<=x.contexts.length/\y.2.2.length=y.1) (fun y=>x.contexts.length - y.1) (0,bc0,[]) ⟨Ze _,rfl⟩
 exact kp_;exact nw_
 ·exact .refl _
 rintro ⟨i,bc,ps⟩ ⟨hi,hps⟩
 dsimp only at hi hps |-
 unfold bxI
 by_cases hlt:i<x.contexts.length
 ·have hrs:=fun p=>n9 aM hlt hps p
  have hos:=fun p=>jX bG hlt hps p
  have hra:(x.contexts.map (ao.tw lo))[i]?=some (x.contexts[i].tw lo):=aK hlt
  have hrl:(nRg aM (x.contexts.take i) ps).length=i:=by rw[eN _ (by rw[Zu];omega),Zu];omega
  have hbi:=hsm _ (Zb hlt)
  generalize x.contexts[i]=c at hrs hos hra hbi
  rw[show c.tw lo=[.int .i64 c.mark,.int .i64 c.code,.int .i64 c.pc,.int .i64 c.sender,.int .i64 c.outer,.int .i64 c.home,.int .i64 c.self.kind,.int .i64 c.self.number,.str c.self.text,.sl lo 3 (c.slots.map (ab.tw lo)),.sl lo 3 (c.stack.map (ab.tw lo)),.sl lo 3 (c.values.map (ab.tw lo)),.int .i64 c.other,.bool c.retry] from rfl] at hra
  have c2:=oZ (G:=G) lo c hbi
  have n2:=fun(y:Pl×Pl×Pl) (_:True)=>yo c y
  generalize nOg bG (x.contexts.take i) ps=T at hos |-
  repeat' (first|refine W_ ?_|(refine ak ?_;intro ss bb)|refine ac ?_)
  generalize ss=s5;generalize bb=b5
  refine aR (.perm (List.Perm.swap _ _ _)) ?_
  repeat' (first|refine W_ ?_|((with_reducible apply fm (id:=9) 7);kernel_rfl;kernel_rfl;kernel_rfl;rfl;(repeat (first|exact Cut.zero _|apply Cut.succ)))|((with_reducible apply m_q);exact ym_;rfl;exact ez)|((with_reducible apply cA);rfl;(intro p;try dsimp only);(repeat (first|exact TB.nil _|((with_reducible apply TB.cons);rfl;rfl;(first|exact .nil _|exact .put _ _ _ _ _ (.nil _)|exact .skip _ _ _ _ _ (.put _ _ _ _ _ (.nil _))|exact .skip _ _ _ _ _ (.skip _ _ _ _ _ (.put _ _ _ _ _ (.nil _)))|(repeat (first|exact .nil _|apply aW.put|apply aW.skip)));kernel_rfl)));rfl;kernel_rfl;kernel_rfl;exact ez)|((with_reducible apply jh);(intro p;rfl);rfl;kernel_rfl;kernel_rfl;rfl;kernel_rfl;rfl;(intro p;rfl);rfl;(intro p;rfl);exact ez)|((with_reducible apply gy hG hst c2);rfl;kernel_rfl;(intro p;(repeat (first|exact bU.nil|((with_reducible apply bU.cons);rfl;exact .same _))));exact n2)|((with_reducible apply kj);(intro p;rfl);(intro p;rfl);rfl;kernel_rfl;(intro p;rfl);exact hrl;(intro p;show List.length _=1;rfl);omega;exact fun p=>hrs (Enc.dec (p _));exact⟨by decide,by decide⟩;exact im;rfl;(focus (simp;done)))|(with_reducible refine DM.nil _ _ _ ?_))
  intro p hp
  refine bV (objs':=(sc,(p 5).b,.row 14 (nRg aM (x.contexts.take (i+1)) (ps++[Enc.dec (p 3)])))::(bG c (Enc.dec (p 3))++((s5,b5,.box [.int .i64 c.mark,.int .i64 c.code,.int .i64 c.pc,.int .i64 c.sender,.int .i64 c.outer,.int .i64 c.home,.int .i64 c.self.kind,.int .i64 c.self.number,.str c.self.text,.sl lo 3 (c.slots.map (ab.tw lo)),.sl lo 3 (c.stack.map (ab.tw lo)),.sl lo 3 (c.values.map (ab.tw lo)),.int .i64 c.other,.bool c.retry])::(s3,b3,.box (bxI x yb ys sb bb0 (.ms sc bc 0 i) (.sl lo 2 (x.processes.map (ag.tw lo))) (.sl lo 1 (aS x.ready))))::(T++RR)))) (by rw[show et _=[_,_] from rfl];(try simp only[ZC,ZK,Zt,Zk,ZF,Zx]);(try rfl)) ?_
  unfold bxI
  dsimp only [Nat.reduceAdd] at hp |-
  generalize (Enc.dec (p 3):Pl×Pl×Pl)=q
  generalize Yu.b (p 5)=bb
  refine bV (objs':=_::(q.1.1,q.1.2,.row 3 (c.slots.map (ab.tw 0)))::(q.2.1.1,q.2.1.2,.row 3 (c.stack.map (ab.tw 0)))::(q.2.2.1,q.2.2.2,.row 3 (c.values.map (ab.tw 0)))::(s5,b5,_)::(s3,b3,_)::_) rfl ?_
  repeat' (first|refine W_ ?_|refine ac ?_)
  refine ah (i+1,bb,ps++[q]) ⟨by dsimp only;omega,by dsimp only;simp[hps]⟩ (by dsimp only;omega) (.of _ nw_ od_ ?_)
  dsimp only
  rw[hos q]
  refine bS.trans (jV _ _ (bG c q) T RR) ?_
  exact .sub (.cons_cons _ (.cons_cons _ (.cons_cons _ (.cons_cons _ (.cons _ (YX _))))))
 ·obtain rfl:i=x.contexts.length:=by omega
  rw[Zc (Zg _),hRR]
  refine aR (abf _ _ _ _ _ _ _ _) ?_
  repeat' (first|refine H_ 12 ?_|refine ac ?_|((with_reducible apply jn (n:=0));rfl;rfl;kernel_rfl;kernel_rfl;rfl;kernel_rfl;rfl;rfl;rfl;rfl;intro ss bb)|((with_reducible apply dN);rfl;rfl;rfl;kernel_rfl;(repeat (first|with_reducible exact mh|with_reducible refine mt ?_));(first|with_reducible assumption|exact aI _|exact aj _|exact aH _|exact Zf _|assumption|rfl);omega;(intro bq;(repeat (first|with_reducible exact Upd.head _|with_reducible apply Upd.tail)));intro bb))
  refine⟨?_⟩
  generalize ss=sp;generalize bb=bp
  repeat' (first|refine W_ ?_|refine ac ?_|((with_reducible apply jn (n:=0));rfl;rfl;kernel_rfl;kernel_rfl;rfl;kernel_rfl;rfl;rfl;rfl;rfl;intro ss bb)|((with_reducible apply dN);rfl;rfl;rfl;kernel_rfl;(repeat (first|with_reducible exact mh|with_reducible refine mt ?_));(first|with_reducible assumption|exact aI _|exact aj _|exact aH _|exact Zf _|assumption|rfl);omega;(intro bq;(repeat (first|with_reducible exact Upd.head _|with_reducible apply Upd.tail)));intro bb))
  generalize ss=sr;generalize bb=br
  exact aw (t1:=.agg [.ms yb.1.1.1 yb.1.1.2 0 x.base.classes.length,.ms yb.2.1.1.1 yb.2.1.1.2 0 x.base.codes.length,.ms yb.2.2.1 yb.2.2.2 0 x.base.entries.length,.int .i64 x.base.main,.ms ys.1.1.1 ys.1.1.2 0 x.store.classes.length,.ms ys.2.1.1.1 ys.2.1.1.2 0 x.store.objects.length,.ms ys.2.2.1 ys.2.2.2 0 x.store.output.length,.int .i64 x.store.ticks,.int .i64 x.store.budget,.int .i64 x.store.made,.ms sb bb0 0 x.blocks.length,.ms sc bc 0 x.contexts.length,.ms sp bp 0 x.processes.length,.ms sr br 0 x.ready.length,.int .i64 x.now,.int .i64 x.status,.int .i64 x.value.kind,.int .i64 x.value.number,.str x.value.text,.str x.fault]) x_ rfl (yb,ys,(sb,bb0),((sc,bc),ps),(sp,bp),(sr,br)) ⟨hB,hS,hps⟩ rfl (.app _ R) (abz _ _ _ _ _ _ _ _ _ _) (.cell _ _ _ _ _ rfl mm_ (by kernel_rfl) (by kernel_rfl) (by kernel_rfl)) rfl
end
def aek (l:List Int) (v:Int):Int:=if v∈l then (l.findIdx (fun y=>decide (y=v)):Nat) else -1
theorem afw {l:List Int} {v:Int} {i:Nat} (h:i<l.length) (e:l[i]=v) (hb:∀y∈l.take i,y≠v):aek l v=i:=by
 unfold aek
 rw[if_pos (e ▸ Zb h),(List.findIdx_eq (p:=fun y=>decide (y=v)) h).2 ⟨by simp[e],fun j hj=>?_⟩]
 refine decide_eq_false (hb _ ?_)
 exact List.mem_take_iff_getElem.2 ⟨j,by omega,rfl⟩
theorem aaG {l:List Int} {v:Int} (h:∀y∈l,y≠v):aek l v=-1:=by
 unfold aek
 rw[if_neg fun hm=>h v hm rfl]
theorem ac6 (l:List Int) (v:Int):decide (aek l v ≥ 0)=decide (v∈l):=by
 unfold aek
 split <;> simp_all
section
variable {G:World->Prop}
theorem oP (lo:Nat) (l:List Int) (v:Int) (hn:l.length<=1000000000):Ct Tryz.prog G 254 [.sl lo 1 (aS l),.int .i64 v] (fun _=>.int .i64 (aek l v)):=by
 refine av Tryz.func254 rfl Tryz.ntmps254 rfl rfl fun w0 _ hG=>?_
 have hlen:=aj l
 repeat' refine W_ ?_
 apply ap (X:=Nat) [0,1,7] (fun i=>[(8,.int .i64 (i:Int))]) (fun _=>[]) (fun i=>i<=l.length/\∀y∈l.take i,y≠v) (fun i=>l.length - i) 0 ⟨Ze _,by simp⟩
 exact kp_;exact nw_
 ·exact .refl _
 rintro i ⟨hi,hs⟩
 try dsimp only
 by_cases hlt:i<l.length
 ·have hrow:=kD hlt
  have hta:=aY (p:=fun y=>y≠v) hlt hs
  have htr:l[i]=v->aek l v=i:=fun e=>afw hlt e hs
  generalize l[i]=x at hrow hta htr
  by_cases hx:x=v
  ·rw[htr hx]
   have hx2:v=x:=hx.symm
   repeat' refine W_ ?_
   exact r1_
  ·have hx2:¬ v=x:=fun e=>hx e.symm
   repeat' refine W_ ?_
   exact ah (i+1) ⟨by omega,hta hx⟩ (by omega) (.of _ nw_ od_ pk_)
 ·rw[Zc (by omega)] at hs
  rw[aaG hs]
  repeat' refine W_ ?_
  exact r1_
theorem lp (hst:ay G) (lo:Nat) (l:List Int) (v:Int) (hn:l.length<=1000000000):Ct Tryz.prog G 187 [.sl lo 1 (aS l),.int .i64 v] (fun _=>.bool (decide (v∈l))):=by
 rw[<- ac6]
 refine av Tryz.func187 rfl Tryz.ntmps187 rfl rfl fun w0 _ hG=>?_
 repeat' (first|refine W_ ?_|refine ae hG hst (oP lo l v hn) ?_)
 exact r1_
end
open Classical in
theorem aa5 {m:ad} {a:Int}:kg m a=true↔d7 m a:=decide_eq_true_iff
def ac9 (m:ad):Prop:=inR m.processes.length 1 20=true/\inR m.now 0 ((m.processes.length:Int) - 1)=true/\(∀p∈m.processes,inR p.at_ (-1) ((m.contexts.length:Int) - 1)=true)/\vc m (pb m++m.ready++wB m)
open Classical in
noncomputable def tx (m:ad):Bool:=decide (ac9 m)
open Classical in
theorem agv {m:ad} (h:¬ ac9 m):tx m=false:=decide_eq_false h
open Classical in
theorem aeq {m:ad} (h:ac9 m):tx m=true:=decide_eq_true h
theorem afD {l2:Nat} {l:List aB} {i:Nat} (h:i<l.length) {ds:List Int} (hd:dps l[i]=ds):((l.take i).map fun x=>[TV.sl l2 1 (aS (dps x))])++[[TV.sl l2 1 (aS ds)]]=(l.take (i+1)).map fun x=>[TV.sl l2 1 (aS (dps x))]:=by
 rw[ek h,YG,<- hd];rfl
theorem qg (lo:Nat) (m:ad) (hsm:m.small 1048576) (hdep:∀c∈m.base.codes,kr c.instrs=true/\∃ds,cx c.instrs=some ds/\ds.length=c.instrs.length) (hsd:eY m)
   (hplain:∀(i:Nat) (h:i<m.contexts.length),m.contexts[i].mark=0->(0<=m.contexts[i].code/\m.contexts[i].code<m.base.codes.length)/\0<=m.contexts[i].pc) (h800:m.store.objects.length<=800) (hsem:∀o∈m.store.objects,o.kind=3->1<=o.numbers.length):Ct Tryz.prog GL 105 [.agg (m.tw lo)] (fun _=>.bool (tx m)):=by
 refine av Tryz.func105 rfl Tryz.ntmps105 rfl rfl fun w0 _ hG=>?_
 have hst:=en
 have hF:=agv (m:=m)
 have hT:=aeq (m:=m)
 have hlx:=ao.len lo m.contexts
 have hlo:=ar.len lo m.store.objects
 have hlp:=ag.len lo m.processes
 have hlc:=aB.len lo m.base.codes
 have hxl:=hsm.2.2.2.1.1
 have hpl:=hsm.2.2.2.2.1.1
 have hrl:=hsm.2.2.2.2.2.1
 have hcl:=hsm.1.2.1.1
 have hrl2:=aj m.ready
 have hnum:∀o∈m.store.objects,o.numbers.length<=1048576:=fun o h=>(hsm.2.1.2.1.2 o h).2
 have hsl:=fun(i:Nat) (h:i<=m.store.objects.length)=>vX h hnum
 have hnl:=wO m
 have hnow:pb m=if m.status=0 then [m.now] else []:=rfl
 have hW:=fun a=>adb lo w0.heap.size m hsm hdep hsd hplain a
 have k1:=aP (G:=GL) m.processes.length 1 20
 have k2:=aP (G:=GL) m.now 0 ((m.processes.length:Int) - 1)
 have hcl1:=oU (G:=GL) lo m.ready hrl
 have hsc:=fun(i:Nat) (h:i<m.base.codes.length)=>hsm.1.2.1.2 _ (Zb h)
 have hdp:=fun(i:Nat) (h:i<m.base.codes.length)=>hdep _ (Zb h)
 clear hsm hdep hplain hsd
 unfold ad.tw at hW |-
 cases h1:inR m.processes.length 1 20
 case false =>
   rw[hF fun h=>by have:=h.1;rw[h1] at this;cases this]
   rw[h1] at k1
   repeat' (first|refine W_ ?_|refine aJ ?_|refine ae hG hst (k1) ?_)
   exact r1_
 rw[h1] at k1
 have h1':=of_decide_eq_true h1
 rw[show (m.processes.length:Int) - 1=((m.processes.length - 1:Nat):Int) by omega] at k2
 cases h2:inR m.now 0 ((m.processes.length - 1:Nat):Int)
 case false =>
   rw[hF fun h=>by
     have:=h.2.1
     rw[show (m.processes.length:Int) - 1=((m.processes.length - 1:Nat):Int) by omega,h2] at this;cases this]
   rw[h2] at k2
   repeat' (first|refine W_ ?_|refine aJ ?_|refine ae hG hst (k1) ?_|refine ae hG hst (k2) ?_)
   exact r1_
 rw[h2] at k2
 rw[show ((m.processes.length - 1:Nat):Int)=(m.processes.length:Int) - 1 by omega] at h2
 repeat' (first|refine W_ ?_|refine aJ ?_|refine ae hG hst (k1) ?_|refine ae hG hst (k2) ?_)
 apply ap (X:=Nat) [1,31,32] (fun i=>[(33,.int .i64 (i:Int))]) (fun _=>[]) (fun i=>i<=m.processes.length/\∀p∈m.processes.take i,inR p.at_ (-1) ((m.contexts.length:Int) - 1)=true) (fun i=>m.processes.length - i) 0 ⟨Ze _,by simp⟩
 exact kp_;exact nw_
 ·exact .refl _
 rintro i ⟨hi,hall⟩
 try dsimp only
 by_cases hlt:i<m.processes.length
 ·have hrow:=rN (lo:=lo) hlt
  have hta:=aY (p:=fun p=>inR p.at_ (-1) ((m.contexts.length:Int) - 1)=true) hlt hall
  have hbad:inR m.processes[i].at_ (-1) ((m.contexts.length:Int) - 1)=false->tx m=false:=fun hB=>hF fun h=>by have:=h.2.2.1 _ (Zb hlt);rw[hB] at this;cases this
  generalize m.processes[i]=p at hrow hta hbad
  have hct:=aP (G:=GL) p.at_ (-1) ((m.contexts.length:Int) - 1)
  have hcs:(m.contexts.length:Int) - 1=((m.contexts.length - 1:Nat):Int)\/¬ 1<=m.contexts.length:=by omega
  cases hB:inR p.at_ (-1) ((m.contexts.length:Int) - 1)
  ·rw[hbad hB]
   rw[hB] at hct
   rcases hcs with hcs|hcs
   ·rw[hcs] at hct
    have hcs1:1<=m.contexts.length:=by omega
    repeat' (first|refine W_ ?_|(refine ak ?_;intro ss bb)|refine ac ?_|refine ae hG hst (hct) ?_)
    exact r1_
   ·repeat' (first|refine W_ ?_|(refine ak ?_;intro ss bb)|refine ac ?_|refine ae hG hst (hct) ?_)
    exact r1_
  ·rw[hB] at hct
   rcases hcs with hcs|hcs
   ·rw[hcs] at hct
    have hcs1:1<=m.contexts.length:=by omega
    repeat' (first|refine W_ ?_|(refine ak ?_;intro ss bb)|refine ac ?_|refine ae hG hst (hct) ?_)
    exact ah (i+1) ⟨by omega,hta hB⟩ (by omega) (.of _ nw_ od_ pk_)
   ·repeat' (first|refine W_ ?_|(refine ak ?_;intro ss bb)|refine ac ?_|refine ae hG hst (hct) ?_)
    exact ah (i+1) ⟨by omega,hta hB⟩ (by omega) (.of _ nw_ od_ pk_)
 obtain rfl:i=m.processes.length:=by omega
 rw[Zc (Zg _)] at hall
 have hFl:¬ vc m (m.ready++pb m++wB m)->tx m=false:=fun h=>hF fun k=>h (rl.2 k.2.2.2)
 have hTl:vc m (m.ready++pb m++wB m)->tx m=true:=fun h=>hT ⟨h1,h2,hall,rl.1 h⟩
 clear hF hT hall hlt hi k1 k2
 generalize tx m=V at hFl hTl |-
 repeat' (first|refine H_ 10 ?_|((with_reducible apply aA);rfl;kernel_rfl;(repeat (first|exact az.nil|((with_reducible apply az.cons);rfl)));exact hG;exact hcl1;exact .nil _;rintro ⟨s5,b5⟩ -;refine bO ?_))
 refine⟨?_⟩
 apply gq (X:=Nat) [1] (fun b=>[(5,.ms s5 b 0 (m.ready++pb m).length)]) (fun b=>[(s5,b,.row 1 (aS (m.ready++pb m)))]) (fun _=>True)
 case hk=>(repeat (first|exact j9.nil|(apply j9.cons;rfl)))
 ·rw[hnow]
  have hap:aS m.ready++[[.int .i64 m.now]]=aS (m.ready++[m.now]):=by simp[aS]
  by_cases hs:m.status=0
  ·rw[if_pos hs,show (m.ready++[m.now]).length=m.ready.length+1 by simp]
   repeat' (first|refine W_ ?_|refine ef ?_|((with_reducible apply eD);rfl;rfl;rfl;kernel_rfl;(repeat (first|with_reducible exact mh|with_reducible refine mt ?_));exact hrl2;exact(rfl:_=1);omega;exact hap;(intro bq;(repeat (first|with_reducible exact Upd.head _|with_reducible apply Upd.tail)));intro bb))
   exact eR _ trivial (.of _ nw_ od_ pk_)
  ·rw[if_neg hs,Zt]
   repeat' refine W_ ?_
   exact eR b5 trivial (.of _ nw_ od_ pk_)
 clear hnow hcl1
 intro b6 _
 generalize hN0:m.ready++pb m=N0 at hFl hTl |-
 have hN0l:N0.length<=1048577:=by rw[<- hN0,Zh];omega
 repeat' refine W_ ?_
 apply ap (X:=Nat×Nat×List Int) [1,59,60] (fun x=>[(61,.int .i64 (x.1:Int)),(5,.ms s5 x.2.1 0 x.2.2.length)]) (fun x=>[(s5,x.2.1,.row 1 (aS x.2.2))]) (fun x=>x.1<=m.store.objects.length/\x.2.2=N0++(m.store.objects.take x.1).flatMap xa) (fun x=>m.store.objects.length - x.1) (0,b6,N0) ⟨Ze _,by simp⟩
 exact kp_;exact nw_
 ·exact .refl _
 rintro ⟨i,b7,A⟩ ⟨hi,hA⟩
 dsimp only at hi hA |-
 have hAl:A.length<=1+1048576+i * 1048576:=by
   rw[hA,Zh]
   have:=hsl i hi
   omega
 by_cases hlt:i<m.store.objects.length
 ·have hrow:=sy (lo:=lo) hlt
  have hsn:=oe hlt
  have hol:=hnum _ (Zb hlt)
  have hse:=hsem _ (Zb hlt)
  have hA2:A++xa m.store.objects[i]=N0++(m.store.objects.take (i+1)).flatMap xa:=by rw[hsn,hA,Zk]
  clear hsn hsem hsl hnum hW
  generalize m.store.objects[i]=o at hrow hol hse hA2
  obtain⟨ok,oc,fs,ns⟩:=o
  dsimp only at hrow hol hse
  unfold xa at hA2
  dsimp only at hA2
  have hnl2:=aj ns
  by_cases hk:ok=3
  ·rw[if_pos hk] at hA2
   have h1:=hse hk
   have hdr:=vC ns 1
   have hdl:=aj (ns.drop 1)
   have hdl2:(ns.drop 1).length<=1048576:=by rw[YP];omega
   have hap:=sW A (ns.drop 1)
   repeat' (first|refine W_ ?_|(refine ak ?_;intro ss bb)|refine ac ?_|refine acJ ?_|((with_reducible apply eD);rfl;rfl;rfl;kernel_rfl;(repeat (first|with_reducible exact mh|with_reducible refine mt ?_));exact aj _;exact hdl;omega;exact hap;(intro bq;(repeat (first|with_reducible exact Upd.head _|with_reducible apply Upd.tail)));intro bb))
   rw[<- Zh]
   exact ah (i+1,_,A++ns.drop 1) ⟨by dsimp only;omega,hA2⟩ (by dsimp only;omega) (.of _ nw_ od_ pk_)
  ·rw[if_neg hk,Zt] at hA2
   repeat' (first|refine W_ ?_|(refine ak ?_;intro ss bb)|refine ac ?_)
   exact ah (i+1,b7,A) ⟨by dsimp only;omega,hA2⟩ (by dsimp only;omega) (.of _ nw_ od_ pk_)
 obtain rfl:i=m.store.objects.length:=by omega
 rw[Zc (Zg _)] at hA
 rw[show N0++wB m=A from hA.symm] at hFl hTl
 clear hA hN0 hsl hsem hnum hlt hi
 replace hAl:A.length<=900000000:=by omega
 repeat' refine H_ 18 ?_
 refine⟨?_⟩
 refine oo (t:=5) rfl (aj _) (.head _) ?_
 have hll:=aj A
 repeat' (first|refine W_ ?_|((with_reducible apply jn (n:=0));rfl;rfl;kernel_rfl;kernel_rfl;rfl;kernel_rfl;rfl;rfl;rfl;rfl;intro ss bb))
 generalize ss=s8;generalize bb=b8
 apply ap (X:=Nat×Nat) [1,5,77,78] (fun x=>[(79,.int .i64 (x.1:Int)),(8,.ms s8 x.2 0 x.1)]) (fun x=>[(s8,x.2,.row 1 ((m.base.codes.take x.1).map fun c=>[TV.sl w0.heap.size 1 (aS (dps c))]))]) (fun x=>x.1<=m.base.codes.length) (fun x=>m.base.codes.length - x.1) (0,b8) (Ze _)
 exact kp_;exact nw_
 ·exact .refl _
 rintro ⟨i,b9⟩ hi
 dsimp only at hi |-
 by_cases hlt:i<m.base.codes.length
 ·have hrow:=cj (lo:=lo) hlt
  obtain⟨_,ds,hds,_⟩:=hdp i hlt
  have hsn:=afD (l2:=w0.heap.size) hlt (ad6 hds)
  have hsz:=hsc i hlt
  have hrlen:((m.base.codes.take i).map fun c=>[TV.sl w0.heap.size 1 (aS (dps c))]).length=i:=by rw[Zf,Zu];omega
  clear hW hdp hsc
  generalize m.base.codes[i]=c at hrow hds hsz
  obtain⟨xb,xp,xs,is⟩:=c
  dsimp only at hrow hds
  have hsd:=kd hst ah5 lo xb xp xs is hsz.1 hsz.2
  rw[lT lo] at hsd
  unfold dR dO at hsd
  rw[hds] at hsd
  rw[Yn,Xx] at hsd
  generalize ((m.base.codes.take i).map fun c=>[TV.sl w0.heap.size 1 (aS (dps c))])=R1 at hsn hrlen |-
  generalize hR2:((m.base.codes.take (i+1)).map fun c=>[TV.sl w0.heap.size 1 (aS (dps c))])=R2 at hsn
  repeat' (first|refine W_ ?_|(refine ak ?_;intro ss bb)|refine ac ?_|((with_reducible apply aA);rfl;kernel_rfl;(repeat (first|exact az.nil|((with_reducible apply az.cons);rfl)));exact hG;exact hsd;exact .nil _;rintro ⟨s9,b10⟩ -;refine bO ?_))
  refine oY (t:=89) rfl (aj _) (.head _) ?_
  repeat' (first|refine W_ ?_|refine ef ?_|((with_reducible apply eD);rfl;rfl;rfl;kernel_rfl;(repeat (first|with_reducible exact mh|with_reducible refine mt ?_));exact hrlen;exact(rfl:_=1);omega;exact hsn;(intro bq;(repeat (first|with_reducible exact Upd.head _|with_reducible apply Upd.tail)));intro bb))
  subst hR2
  exact ah (i+1,_) (by dsimp only;omega) (by dsimp only;omega) (.of _ nw_ od_ pk_)
 obtain rfl:i=m.base.codes.length:=by omega
 rw[Zc (Zg _)]
 have hddl:(m.base.codes.map fun c=>[TV.sl w0.heap.size 1 (aS (dps c))]).length=m.base.codes.length:=by simp
 clear hdp hsc hlt hi
 generalize (m.base.codes.map fun c=>[TV.sl w0.heap.size 1 (aS (dps c))])=dd at hW hddl |-
 repeat' refine H_ 25 ?_
 refine⟨?_⟩
 refine oo (t:=8) rfl hddl (.head _) ?_
 repeat' refine W_ ?_
 apply ap (X:=Nat) [1,5,8,93,94] (fun i=>[(95,.int .i64 (i:Int))]) (fun _=>[]) (fun i=>i<=A.length/\(∀p∈A.take i,(0<=p/\p<m.processes.length)/\∀q,m.processes[p.toNat]?=some q->d7 m q.at_)/\(A.take i).Nodup) (fun i=>A.length - i) 0 ⟨Ze _,by simp,by simp⟩
 exact kp_;exact nw_
 ·exact .refl _
 rintro i ⟨hi,hin,hnd⟩
 try dsimp only
 by_cases hlt:i<A.length
 case neg =>
   obtain rfl:i=A.length:=by omega
   rw[Zc (Zg _)] at hin hnd
   rw[hTl ⟨fun p hp=>(hin p hp).1,hnd,fun p hp=>(hin p hp).2⟩]
   repeat' refine W_ ?_
   exact r1_
 have hrow:=kD hlt
 have hta:=aY (p:=fun p:Int=>(0<=p/\p<m.processes.length)/\∀q,m.processes[p.toNat]?=some q->d7 m q.at_) hlt hin
 have hns:=q7 hlt hnd
 have hb1:¬ (0<=A[i]/\A[i]<m.processes.length)->V=false:=fun h=>hFl fun k=>h (k.1 _ (Zb hlt))
 have hb2:A[i]∈A.take i->V=false:=fun h=>hFl fun k=>uS hlt h k.2.1
 have hb3:∀q,m.processes[A[i].toNat]?=some q->¬ d7 m q.at_->V=false:=fun q hq hn=>hFl fun k=>hn (k.2.2 _ (Zb hlt) q hq)
 have htk:=uy A i
 have hhas:=lp (G:=GL) hst w0.heap.size (A.take i) A[i] (by rw[Zu];omega)
 have k1:=aP (G:=GL) A[i] 0 ((m.processes.length - 1:Nat):Int)
 clear hin hFl hTl
 generalize A[i]=p at hrow hta hns hb1 hb2 hb3 hhas k1
 by_cases hr:0<=p/\p<m.processes.length
 case neg =>
   rw[show inR p 0 ((m.processes.length - 1:Nat):Int)=false from by simp only[inR,decide_eq_false_iff_not];omega] at k1
   rw[hb1 hr]
   repeat' (first|refine V_ ?_|refine ai hG hst (k1) ?_)
   exact r1_
 rw[show inR p 0 ((m.processes.length - 1:Nat):Int)=true from by simp only[inR,decide_eq_true_eq];omega] at k1
 by_cases hm:p∈A.take i
 ·rw[decide_eq_true hm] at hhas
  rw[hb2 hm]
  repeat' (first|refine V_ ?_|refine lQ ?_|refine ai hG hst (k1) ?_|refine ai hG hst (hhas) ?_)
  exact r1_
 rw[decide_eq_false hm] at hhas
 obtain⟨u,rfl⟩:∃u:Nat,p=u:=⟨p.toNat,by omega⟩
 have hul:u<m.processes.length:=by omega
 have hrp:=rN (lo:=lo) hul
 have hwu:=hW m.processes[u].at_
 have hq:m.processes[((u:Nat):Int).toNat]?=some m.processes[u]:=by rw[ZB,Za hul]
 have hb3:=hb3 _ hq
 have hta2:d7 m m.processes[u].at_->∀q,m.processes[((u:Nat):Int).toNat]?=some q->d7 m q.at_:=fun h q hqq=>by rw[hq] at hqq;cases hqq;exact h
 generalize m.processes[u]=pr at hrp hwu hb3 hta2
 cases hB:kg m pr.at_
 ·rw[hB] at hwu
  rw[hb3 fun h=>by rw[rP h] at hB;cases hB]
  repeat' (first|refine V_ ?_|refine lQ ?_|refine ai hG hst (k1) ?_|refine ai hG hst (hhas) ?_|refine ai hG hst (hwu) ?_)
  exact r1_
 ·rw[hB] at hwu
  have hcp:=aa5.1 hB
  repeat' (first|refine V_ ?_|refine lQ ?_|refine ai hG hst (k1) ?_|refine ai hG hst (hhas) ?_|refine ai hG hst (hwu) ?_)
  exact ah (i+1) ⟨by omega,hta ⟨hr,hta2 hcp⟩,hns hm⟩ (by omega) (.of _ nw_ od_ pk_)
end Go.Proofs.YtifcomgnmokimaaGreatDoor
