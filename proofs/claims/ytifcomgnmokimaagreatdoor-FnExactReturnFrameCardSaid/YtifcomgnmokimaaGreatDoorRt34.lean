/- Part 34 of the proof: the texts CpE, NiZ, NiZ2, ZR, ImP, ImQ, ImO. -/
import Derived.Test.YtifcomgnmokimaaGreatDoorRt3
import Derived.Test.YtifcomgnmokimaaGreatDoorRt14
import Derived.Test.YtifcomgnmokimaaGreatDoorRt31
import Derived.Test.YtifcomgnmokimaaGreatDoorRt23
import Derived.Test.YtifcomgnmokimaaGreatDoorRt7
import Derived.Test.YtifcomgnmokimaaGreatDoorRt30
import Derived.Test.YtifcomgnmokimaaGreatDoorRt15
import Derived.Test.YtifcomgnmokimaaGreatDoorRt8
set_option linter.all false
set_option maxHeartbeats 4000000
set_option maxRecDepth 20000
namespace Go.Proofs.YtifcomgnmokimaaGreatDoor
open Go Go.RowKit
instance:Enc (Pl×Pl):=inferInstanceAs (Enc ((Nat×Nat)×(Nat×Nat)))
instance:Enc (Pl×Pl×Pl):=inferInstanceAs (Enc ((Nat×Nat)×(Nat×Nat)×(Nat×Nat)))
theorem n9 {α β:Type} (mk:α->β->List TV) {l:List α} {ps:List β} {i:Nat} (h:i<l.length) (hp:ps.length=i) (p:β):nRg mk (l.take i) ps++[mk l[i] p]=nRg mk (l.take (i+1)) (ps++[p]):=by
 unfold nRg
 rw[ek h,Yv (by rw[Zu];omega)];rfl
theorem acL (x:ar) (y:Pl×Pl):(∀s b o,(s,b,o)∈cI x y->cE (cI x y) o)/\dY (cI x y) (.agg (cf x y)) :=
 ⟨fun s b o h=>vm x y _ s b o h,.agg _ (uR x y _ fun _ h=>h)⟩
theorem yo (x:ao) (y:Pl×Pl×Pl):(∀s b o,(s,b,o)∈bG x y->cE (bG x y) o)/\dY (bG x y) (.agg (aM x y)) :=
 ⟨fun s b o h=>vz x y _ s b o h,.agg _ (ux x y _ fun _ h=>h)⟩
theorem jV (a b:Nat×Nat×aV) (z T R:aG):bS (a::b::((T++z)++R)) (a::(z++(b::(T++R)))):=.perm (by
 have h:((T++z)++R).Perm (z++(T++R)):=by
   rw[<- Zk]
   exact List.perm_append_comm.append_right R
 exact((h.cons b).trans List.perm_middle.symm).cons a)
section
variable {G:World->Prop}
theorem qe (lo:Nat) (x:ar) (hb:x.small 1048576):CtM Tryz.prog G 211 [.agg [.int .i64 x.kind,.int .i64 x.class_,.sl lo 3 (x.fields.map (ab.tw lo)),.sl lo 1 (aS x.numbers)]] [] (fun _:Pl×Pl=>True) (cI x) (fun y=>.agg (cf x y)):=by
 refine au Tryz.func211 rfl Tryz.ntmps211 rfl rfl rfl fun w0 R gs objsR hG hR=>?_
 obtain rfl:=hR.inv0
 clear hR
 have h1:=hb.1.1
 have h2:=hb.2
 repeat' (first|refine W_ ?_|((with_reducible apply o5);rfl;rfl;rfl;intro ss bb)|(refine ak ?_;intro ss bb)|refine ac ?_|((with_reducible apply jn (n:=0));rfl;rfl;kernel_rfl;kernel_rfl;rfl;kernel_rfl;rfl;rfl;rfl;rfl;intro ss bb)|((with_reducible apply dN);rfl;rfl;rfl;kernel_rfl;(repeat (first|with_reducible exact mh|with_reducible refine mt ?_));(first|with_reducible assumption|exact aI _|exact aj _|exact aH _|exact Zf _|assumption|rfl);omega;(intro bq;(repeat (first|with_reducible exact Upd.head _|with_reducible apply Upd.tail)));intro bb))
 rename_i s3 b3 b4 b5
 exact aw (t1:=.agg [.int .i64 x.kind,.int .i64 x.class_,.ms s3 b4 0 x.fields.length,.ms ss bb 0 x.numbers.length]) x_ rfl ((s3,b4),(ss,bb)) trivial rfl (.cons _ _ _ _ (.cons _ _ _ _ (.nil R))) pk_ (.cell _ _ _ _ _ rfl mm_ (by kernel_rfl) (by kernel_rfl) (by kernel_rfl)) rfl
theorem oZ (lo:Nat) (x:ao) (hb:x.small 1048576):CtM Tryz.prog G 136 [.agg [.int .i64 x.mark,.int .i64 x.code,.int .i64 x.pc,.int .i64 x.sender,.int .i64 x.outer,.int .i64 x.home,.int .i64 x.self.kind,.int .i64 x.self.number,.str x.self.text,.sl lo 3 (x.slots.map (ab.tw lo)),.sl lo 3 (x.stack.map (ab.tw lo)),.sl lo 3 (x.values.map (ab.tw lo)),.int .i64 x.other,.bool x.retry]] [] (fun _:Pl×Pl×Pl=>True) (bG x) (fun y=>.agg (aM x y)):=by
 refine au Tryz.func136 rfl Tryz.ntmps136 rfl rfl rfl fun w0 R gs objsR hG hR=>?_
 obtain rfl:=hR.inv0
 clear hR
 have h1:=hb.2.1.1
 have h2:=hb.2.2.1.1
 have h3:=hb.2.2.2.1
 repeat' (first|refine W_ ?_|((with_reducible apply o5);rfl;rfl;rfl;intro ss bb)|(refine ak ?_;intro ss bb)|refine ac ?_|((with_reducible apply jn (n:=0));rfl;rfl;kernel_rfl;kernel_rfl;rfl;kernel_rfl;rfl;rfl;rfl;rfl;intro ss bb)|((with_reducible apply dN);rfl;rfl;rfl;kernel_rfl;(repeat (first|with_reducible exact mh|with_reducible refine mt ?_));(first|with_reducible assumption|exact aI _|exact aj _|exact aH _|exact Zf _|assumption|rfl);omega;(intro bq;(repeat (first|with_reducible exact Upd.head _|with_reducible apply Upd.tail)));intro bb))
 rename_i s3 b3 b4 s5 b5 b6 b7
 exact aw (t1:=.agg [.int .i64 x.mark,.int .i64 x.code,.int .i64 x.pc,.int .i64 x.sender,.int .i64 x.outer,.int .i64 x.home,.int .i64 x.self.kind,.int .i64 x.self.number,.str x.self.text,.ms s3 b4 0 x.slots.length,.ms s5 b6 0 x.stack.length,.ms ss bb 0 x.values.length,.int .i64 x.other,.bool x.retry]) x_ rfl ((s3,b4),(s5,b6),(ss,bb)) trivial rfl (.cons _ _ _ _ (.cons _ _ _ _ (.cons _ _ _ _ (.nil R)))) pk_ (.cell _ _ _ _ _ rfl mm_ (by kernel_rfl) (by kernel_rfl) (by kernel_rfl)) rfl
theorem f7 (lo:Nat) (l:List ab) (hb:l.length<=1048576):CtM Tryz.prog G 204 [.sl lo 3 (l.map (ab.tw lo))] [] (fun _:Nat×Nat=>True) (fun y=>[(y.1,y.2,.row 3 (l.map (ab.tw 0)))]) (fun y=>.ms y.1 y.2 0 l.length):=by
 refine au Tryz.func204 rfl Tryz.ntmps204 rfl rfl rfl fun w0 R gs objsR hG hR=>?_
 obtain rfl:=hR.inv0
 clear hR
 repeat' (first|refine W_ ?_|((with_reducible apply jn (n:=0));rfl;rfl;kernel_rfl;kernel_rfl;rfl;kernel_rfl;rfl;rfl;rfl;rfl;intro ss bb)|((with_reducible apply dN);rfl;rfl;rfl;kernel_rfl;(repeat (first|with_reducible exact mh|with_reducible refine mt ?_));(first|with_reducible assumption|exact aI _|exact aj _|exact aH _|exact Zf _|assumption|rfl);omega;(intro bq;(repeat (first|with_reducible exact Upd.head _|with_reducible apply Upd.tail)));intro bb))
 exact aw x_ rfl (_,_) trivial rfl (.cons _ _ _ _ (.nil R)) pk_ (.tmp _ _ rfl) rfl
theorem lw (lo:Nat) (x:ao) (hb:x.small 1048576):CtM Tryz.prog G 128 [.agg [.int .i64 x.mark,.int .i64 x.code,.int .i64 x.pc,.int .i64 x.sender,.int .i64 x.outer,.int .i64 x.home,.int .i64 x.self.kind,.int .i64 x.self.number,.str x.self.text,.sl lo 3 (x.slots.map (ab.tw lo)),.sl lo 3 (x.stack.map (ab.tw lo)),.sl lo 3 (x.values.map (ab.tw lo)),.int .i64 x.other,.bool x.retry]] [] (fun _:Pl×Pl×Pl=>True) (bG x) (fun y=>.agg (aM x y)):=by
 refine au Tryz.func128 rfl Tryz.ntmps128 rfl rfl rfl fun w0 R gs objsR hG hR=>?_
 obtain rfl:=hR.inv0
 clear hR
 have c1:=f7 (G:=G) lo x.slots hb.2.1.1
 have c2:=f7 (G:=G) lo x.stack hb.2.2.1.1
 have c3:=f7 (G:=G) lo x.values hb.2.2.2.1
 repeat' (first|refine W_ ?_|((with_reducible apply o5);rfl;rfl;rfl;intro ss bb)|(refine ak ?_;intro ss bb)|refine ac ?_|((with_reducible apply aA);rfl;kernel_rfl;(repeat (first|exact az.nil|((with_reducible apply az.cons);rfl)));exact hG;(first|exact c1|exact c2|exact c3);exact .nil _;intro y hy;refine bO ?_))
 rename_i y1 _ y2 _
 exact aw (t1:=.agg [.int .i64 x.mark,.int .i64 x.code,.int .i64 x.pc,.int .i64 x.sender,.int .i64 x.outer,.int .i64 x.home,.int .i64 x.self.kind,.int .i64 x.self.number,.str x.self.text,.ms y1.1 y1.2 0 x.slots.length,.ms y2.1 y2.2 0 x.stack.length,.ms y.1 y.2 0 x.values.length,.int .i64 x.other,.bool x.retry]) x_ rfl (y1,y2,y) trivial rfl (.cons _ _ _ _ (.cons _ _ _ _ (.cons _ _ _ _ (.nil R)))) pk_ (.cell _ _ _ _ _ rfl mm_ (by kernel_rfl) (by kernel_rfl) (by kernel_rfl)) rfl
theorem abq (a e z2 z3:Nat×Nat×aV) (C A R:aG):bS (z2::z3::a::(A++(e::(C++R)))) (a::z3::(A++(e::(C++(z2::R))))):=.perm (by
 have h:((z3::a::A)++(e::C)++z2::R).Perm (z2::((z3::a::A)++(e::C)++R)):=Z4
 exact .trans (by simpa using h.symm) (List.Perm.swap a z3 _))
theorem abW (a e:Nat×Nat×aV) (C A R:aG):((C++((a::A)++[e]))++R).Perm (a::(A++(e::(C++R)))):=wn a e C A R
theorem tt (hst:ay G) (lo:Nat) (x:aQ) (hb:x.small 1048576):CtM Tryz.prog G 135 [.agg (x.tw lo)] [] (stI x) (stO x) (fun y=>.agg (stC x y)):=by
 refine au Tryz.func135 rfl Tryz.ntmps135 rfl rfl rfl fun w0 R gs objsR hG hR=>?_
 obtain rfl:=hR.inv0
 clear hR
 have c1:=jC hst lo x.classes hb.1
 have n1:=fun(y:(Nat×Nat)×List (Nat×Nat)) (_:y.2.length=x.classes.length)=>iP (m:=3) (s:=y.1.1) (b:=y.1.2) (n:=x.classes.length) iK iB x.classes y.2
 have hel:=cg x.output
 have he1:=hb.2.2.1
 unfold aQ.tw
 repeat' (first|refine W_ ?_|refine aJ ?_|(refine ak ?_;intro ss bb)|((with_reducible apply dX (id:=1) 15);kernel_rfl;kernel_rfl;kernel_rfl;rfl;(repeat (first|exact Cut.zero _|apply Cut.succ)))|((with_reducible apply m_q);exact ym_;rfl;exact ez)|((with_reducible apply cA);rfl;(intro p;try dsimp only);(repeat (first|exact TB.nil _|((with_reducible apply TB.cons);rfl;rfl;(first|exact .nil _|exact .put _ _ _ _ _ (.nil _)|exact .skip _ _ _ _ _ (.put _ _ _ _ _ (.nil _))|exact .skip _ _ _ _ _ (.skip _ _ _ _ _ (.put _ _ _ _ _ (.nil _)))|(repeat (first|exact .nil _|apply aW.put|apply aW.skip)));kernel_rfl)));rfl;kernel_rfl;kernel_rfl;exact ez)|((with_reducible apply gm);rfl;rfl;kernel_rfl)|((with_reducible apply uw);(intro p;rfl);rfl;kernel_rfl;kernel_rfl;rfl;kernel_rfl;rfl;rfl;rfl;rfl)|((with_reducible apply nk);(intro p;rfl);(intro p;rfl);rfl;kernel_rfl;(intro p;rfl);(first|with_reducible assumption|exact aI _|exact aj _|exact aH _|exact Zf _|assumption|rfl);omega;exact⟨by decide,ah_⟩;rfl;(focus (simp;done)))|((with_reducible apply gy hG hst c1);rfl;kernel_rfl;(intro p;(repeat (first|exact bU.nil|((with_reducible apply bU.cons);rfl;exact .same _))));exact n1)|(with_reducible refine DM.nil _ _ _ ?_))
 generalize ss=s2;generalize bb=b2
 intro p hp
 simp only[Yr] at hp
 obtain⟨_,_,_,hI,_⟩:=hp
 refine bV (objs':=((p 14).a,(p 14).b,.box [.nils,.nils,.nils,.int .i64 0,.int .i64 0,.int .i64 0])::((p 3).a,(p 6).b,.row 1 (ca x.output))::(rk x.classes (Enc.dec (p 2))++((s2,b2,.box [.nils,.nils,.nils,.int .i64 0,.int .i64 0,.int .i64 0])::R))) (by rw[show et _=[_,_,_] from rfl];simp only[ZC,ZK,Zt,Zk,ZF,Zx];(try rfl)) ?_
 dsimp only [Nat.reduceAdd] at hI |-
 generalize (Enc.dec (p 2):(Nat×Nat)×List (Nat×Nat))=yc at hI |-
 generalize Yu.a (p 14)=s3
 generalize Yu.b (p 14)=b3
 generalize Yu.a (p 3)=se
 generalize Yu.b (p 6)=be
 have hcl:=ar.len lo x.objects
 have hc1:=hb.2.1.1
 have hsm:=hb.2.1.2
 repeat' (first|refine W_ ?_|refine ac ?_)
 refine pW 1 4 (by decide) rfl fun sc=>?_
 obtain⟨RR,hRR⟩:∃RR:aG,RR=((se,be,.row 1 (ca x.output))::(rk x.classes yc++((s2,b2,aV.box [.nils,.nils,.nils,.int .i64 0,.int .i64 0,.int .i64 0])::R))):=⟨_,rfl⟩
 refine aR (objs':=(sc,0,.row 4 [])::(s3,b3,.box [.ms yc.1.1 yc.1.2 0 x.classes.length,.ms sc 0 0 0,.ms se be 0 x.output.length,.int .i64 x.ticks,.int .i64 x.budget,.int .i64 x.made])::RR) (by rw[hRR];exact pk_) ?_
 apply ap (X:=Nat×Nat×List (Pl×Pl)) [2,3,21,22,1000000] (fun y=>[(23,.int .i64 (y.1:Int))])
   (fun y=>(sc,y.2.1,.row 4 (nRg cf (x.objects.take y.1) y.2.2))::(s3,b3,.box [.ms yc.1.1 yc.1.2 0 x.classes.length,.ms sc y.2.1 0 y.1,.ms se be 0 x.output.length,.int .i64 x.ticks,.int .i64 x.budget,.int .i64 x.made])::(nOg cI (x.objects.take y.1) y.2.2++RR))
   (fun y=>y.1<=x.objects.length/\y.2.2.length=y.1) (fun y=>x.objects.length - y.1) (0,0,[]) ⟨Ze _,rfl⟩
 exact kp_;exact nw_
 ·exact .refl _
 rintro ⟨i,bc,ps⟩ ⟨hi,hps⟩
 dsimp only at hi hps |-
 by_cases hlt:i<x.objects.length
 ·have hrs:=fun p=>n9 cf hlt hps p
  have hos:=fun p=>jX cI hlt hps p
  have hra:(x.objects.map (ar.tw lo))[i]?=some (x.objects[i].tw lo):=aK hlt
  have hrl:(nRg cf (x.objects.take i) ps).length=i:=by rw[eN _ (by rw[Zu];omega),Zu];omega
  have hbi:=hsm _ (Zb hlt)
  generalize x.objects[i]=c at hrs hos hra hbi
  rw[show c.tw lo=[.int .i64 c.kind,.int .i64 c.class_,.sl lo 3 (c.fields.map (ab.tw lo)),.sl lo 1 (aS c.numbers)] from rfl] at hra
  have c2:=qe (G:=G) lo c hbi
  have n2:=fun(y:Pl×Pl) (_:True)=>acL c y
  generalize nOg cI (x.objects.take i) ps=T at hos |-
  repeat' (first|refine W_ ?_|(refine ak ?_;intro ss bb)|refine ac ?_)
  generalize ss=s5;generalize bb=b5
  refine aR (.perm (List.Perm.swap _ _ _)) ?_
  repeat' (first|refine W_ ?_|((with_reducible apply fm (id:=5) 7);kernel_rfl;kernel_rfl;kernel_rfl;rfl;(repeat (first|exact Cut.zero _|apply Cut.succ)))|((with_reducible apply m_q);exact ym_;rfl;exact ez)|((with_reducible apply cA);rfl;(intro p;try dsimp only);(repeat (first|exact TB.nil _|((with_reducible apply TB.cons);rfl;rfl;(first|exact .nil _|exact .put _ _ _ _ _ (.nil _)|exact .skip _ _ _ _ _ (.put _ _ _ _ _ (.nil _))|exact .skip _ _ _ _ _ (.skip _ _ _ _ _ (.put _ _ _ _ _ (.nil _)))|(repeat (first|exact .nil _|apply aW.put|apply aW.skip)));kernel_rfl)));rfl;kernel_rfl;kernel_rfl;exact ez)|((with_reducible apply jh);(intro p;rfl);rfl;kernel_rfl;kernel_rfl;rfl;kernel_rfl;rfl;(intro p;rfl);rfl;(intro p;rfl);exact ez)|((with_reducible apply gy hG hst c2);rfl;kernel_rfl;(intro p;(repeat (first|exact bU.nil|((with_reducible apply bU.cons);rfl;exact .same _))));exact n2)|((with_reducible apply kj);(intro p;rfl);(intro p;rfl);rfl;kernel_rfl;(intro p;rfl);exact hrl;(intro p;show List.length _=1;rfl);omega;exact fun p=>hrs (Enc.dec (p _));exact⟨by decide,by decide⟩;exact im;rfl;(focus (simp;done)))|(with_reducible refine DM.nil _ _ _ ?_))
  intro p hp
  refine bV (objs':=(sc,(p 5).b,.row 4 (nRg cf (x.objects.take (i+1)) (ps++[Enc.dec (p 3)])))::(cI c (Enc.dec (p 3))++((s5,b5,.box [.int .i64 c.kind,.int .i64 c.class_,.sl lo 3 (c.fields.map (ab.tw lo)),.sl lo 1 (aS c.numbers)])::(s3,b3,.box [.ms yc.1.1 yc.1.2 0 x.classes.length,.ms sc bc 0 i,.ms se be 0 x.output.length,.int .i64 x.ticks,.int .i64 x.budget,.int .i64 x.made])::(T++RR)))) (by rw[show et _=[_,_] from rfl];(try simp only[ZC,ZK,Zt,Zk,ZF,Zx]);(try rfl)) ?_
  dsimp only [Nat.reduceAdd] at hp |-
  generalize (Enc.dec (p 3):Pl×Pl)=q
  generalize Yu.b (p 5)=bb
  refine bV (objs':=_::(q.1.1,q.1.2,.row 3 (c.fields.map (ab.tw 0)))::(q.2.1,q.2.2,.row 1 (aS c.numbers))::(s5,b5,_)::(s3,b3,_)::_) rfl ?_
  repeat' (first|refine W_ ?_|refine ac ?_)
  refine ah (i+1,bb,ps++[q]) ⟨by dsimp only;omega,by dsimp only;simp[hps]⟩ (by dsimp only;omega) (.of _ nw_ od_ ?_)
  dsimp only
  rw[hos q]
  refine bS.trans (jV _ _ (cI c q) T RR) ?_
  exact .sub (.cons_cons _ (.cons_cons _ (.cons_cons _ (.cons _ (YX _)))))
 ·obtain rfl:i=x.objects.length:=by omega
  rw[Zc (Zg _),hRR]
  refine aR (abq _ _ _ _ _ _ _) ?_
  repeat' (first|refine W_ ?_|refine ac ?_)
  exact aw (t1:=.agg [.ms yc.1.1 yc.1.2 0 x.classes.length,.ms sc bc 0 x.objects.length,.ms se be 0 x.output.length,.int .i64 x.ticks,.int .i64 x.budget,.int .i64 x.made]) x_ rfl (yc,((sc,bc),ps),(se,be)) ⟨hI,hps⟩ rfl (.app _ R) (.drop (.drop (.perm (abW _ _ _ _ R)))) (.cell _ _ _ _ _ rfl mm_ (by kernel_rfl) (by kernel_rfl) (by kernel_rfl)) rfl
end
def zIm:ad:=⟨⟨[],[],[],0⟩,⟨[],[],[],0,0,0⟩,[],[],[],[],0,0,aiE,⟨#[]⟩⟩
theorem abu (n:Nat):zIm.small n :=
 ⟨⟨⟨Ze _,by simp[zIm]⟩,⟨Ze _,by simp[zIm]⟩,Ze _,by simp[zIm]⟩,⟨⟨Ze _,by simp[zIm]⟩,⟨Ze _,by simp[zIm]⟩,Ze _,by simp[zIm]⟩,⟨Ze _,by simp[zIm]⟩,⟨Ze _,by simp[zIm]⟩,⟨Ze _,by simp[zIm]⟩,Ze _,Ze _,Ze _⟩
section
variable {w0:World} {N:Nat} {Q:Exit->Act->World->Prop} {env:Env} {objs:aG}
theorem aaV (z a0 a1 a2 a4 a5 a6 a10 a11 a12 a13:Nat×Nat×aV) (R:aG):bS (z::((([a0]++([a1]++[a2]))++(([a4]++([a5]++[a6]))++([a10]++([a11]++([a12]++[a13])))))++R)) (z::a13::a12::a11::a10::a6::a5::a4::a2::a1::a0::R):=.perm (by
 have h:=bA (n:=11) [[a0],[a1],[a2],[a4],[a5],[a6],[a10],[a11],[a12],[a13],R] [9,8,7,6,5,4,3,2,1,0,10] rfl (by decide)
 exact(show (([a0]++([a1]++[a2]))++(([a4]++([a5]++[a6]))++([a10]++([a11]++([a12]++[a13]))))  ++ R).Perm (a13::a12::a11::a10::a6::a5::a4::a2::a1::a0::R) by simpa using h.symm).cons z)
theorem kt {x:Exit} {s b:Nat} (h:∀y:bJ,imI zIm y->AQ w0 N Q x env ((s,b,.box (imC zIm y))::(imO zIm y++objs))):AQ w0 N Q x env ((s,b,.box ad.tz)::objs):=by
 unfold ad.tz
 refine il 0 3 (by decide) rfl fun s0=>?_
 refine il 1 4 (by decide) rfl fun s1=>?_
 refine il 2 4 (by decide) rfl fun s2=>?_
 refine il 4 3 (by decide) rfl fun s4=>?_
 refine il 5 4 (by decide) rfl fun s5=>?_
 refine il 6 1 (by decide) rfl fun s6=>?_
 refine il 10 6 (by decide) rfl fun s10=>?_
 refine il 11 14 (by decide) rfl fun s11=>?_
 refine il 12 2 (by decide) rfl fun s12=>?_
 refine il 13 1 (by decide) rfl fun s13=>?_
 dsimp only [List.set]
 exact lY (aaV _ _ _ _ _ _ _ _ _ _ _ objs) (h ((((s0,0),[]),((s1,0),[]),(s2,0)),(((s4,0),[]),((s5,0),[]),(s6,0)),(s10,0),((s11,0),[]),(s12,0),(s13,0)) ⟨⟨rfl,rfl⟩,⟨rfl,rfl⟩,rfl⟩)
end
theorem sy {lo:Nat} {l:List ar} {i:Nat} (h:i<l.length):(l.map (ar.tw lo))[i]?=some [.int .i64 l[i].kind,.int .i64 l[i].class_,.sl lo 3 (l[i].fields.map (ab.tw lo)),.sl lo 1 (aS l[i].numbers)]:=aK h
theorem age {m:ad} {oc:Int} {fs:List ab} {n0 n1 n2:Int}:xL m ⟨1,oc,fs,[n0,n1,n2]⟩↔aaE m n0 n1 n2:=by
 unfold xL
 constructor
 ·intro h;exact h rfl n0 n1 n2 rfl
 ·intro h _ a b c e
  simp only[List.cons.injEq] at e
  obtain⟨rfl,rfl,rfl,_⟩:=e
  exact h
open Classical in
noncomputable def vM (m:ad):Bool:=decide (∀o∈m.store.objects,xL m o)
open Classical in
theorem agQ {m:ad} {o:ar} (ho:o∈m.store.objects) (h:¬ xL m o):vM m=false:=decide_eq_false fun k=>h (k o ho)
open Classical in
theorem agC {m:ad} (h:∀o∈m.store.objects,xL m o):vM m=true:=decide_eq_true h
theorem ag0 {l:List Int} (h:l.length=3):∃a b c,l=[a,b,c]:=by
 match l,h with
 | [a,b,c],_=>exact⟨a,b,c,rfl⟩
section
variable {G:World->Prop}
theorem xu (lo:Nat) (l:List Int) (v:Int) (hn:l.length<=1000000000):Ct Tryz.prog G 166 [.sl lo 1 (aS l),.int .i64 v] (fun _=>.bool (decide (v∈l))):=by
 refine av Tryz.func166 rfl Tryz.ntmps166 rfl rfl fun w0 _ hG=>?_
 have hlen:=aj l
 repeat' refine W_ ?_
 apply ap (X:=Nat) [0,1] (fun i=>[(5,.int .i64 (i:Int))]) (fun _=>[]) (fun i=>i<=l.length/\∀y∈l.take i,y≠v) (fun i=>l.length - i) 0 ⟨Ze _,by simp⟩
 exact kp_;exact nw_
 ·exact .refl _
 rintro i ⟨hi,hs⟩
 try dsimp only
 by_cases hlt:i<l.length
 ·have hrow:=kD hlt
  have hta:=aY (p:=fun y=>y≠v) hlt hs
  have hmm:=Zb hlt
  generalize l[i]=x at hrow hta hmm
  by_cases hx:x=v
  ·rw[decide_eq_true (hx ▸ hmm)]
   repeat' refine W_ ?_
   exact r1_
  ·repeat' refine W_ ?_
   exact ah (i+1) ⟨by omega,hta hx⟩ (by omega) (.of _ nw_ od_ pk_)
 ·rw[Zc (by omega)] at hs
  rw[decide_eq_false fun h=>hs v h rfl]
  repeat' refine W_ ?_
  exact r1_
end
def pi (m:ad) (L:List Int):Prop:=(∀p∈L,0<=p/\p<m.processes.length)/\L.Nodup
open Classical in
noncomputable def alO (m:ad):Option (List Int):=if pi m (pb m++m.ready++wB m) then some (pb m++m.ready++wB m) else none
open Classical in
theorem ahA {m:ad} {L:List Int} (e:L=pb m++m.ready++wB m) (h:pi m L):alO m=some L:=by subst e;exact if_pos h
open Classical in
theorem ahE {m:ad} {L:List Int} (e:L=pb m++m.ready++wB m) (h:¬ pi m L):alO m=none:=by subst e;exact if_neg h
open Classical in
theorem adz {m:ad} {L:List Int} (h:alO m=some L):L=pb m++m.ready++wB m/\pi m L:=by
 unfold alO at h
 split at h
 ·rename_i hp
  cases h
  exact⟨rfl,hp⟩
 ·cases h
open Classical in
theorem adh {m:ad} (h:alO m=none):¬ pi m (pb m++m.ready++wB m):=by
 unfold alO at h
 split at h
 ·cases h
 ·assumption
noncomputable def acw (m:ad) (K:Nat):TV:=.tup [.sl K 1 (aS ((alO m).getD [])),.bool (alO m).isSome]
theorem q7 {L:List Int} {i:Nat} (h:i<L.length) (hn:(L.take i).Nodup) (hx:L[i]∉L.take i):(L.take (i+1)).Nodup:=by
 rw[ek h,Xg]
 refine⟨hn,by simp,fun a ha b hb e=>?_⟩
 rw[ZM] at hb
 subst hb
 exact hx (e ▸ ha)
theorem uS {L:List Int} {i:Nat} (h:i<L.length) (hx:L[i]∈L.take i):¬ L.Nodup:=fun hn=>by
 rw[<- Y5 i L,Xg] at hn
 exact hn.2.2 _ hx L[i] (by rw[ZI h];exact Zi) rfl
theorem sW (a b:List Int):aS a++aS b=aS (a++b):=by simp[aS]
theorem vC (a:List Int) (n:Nat):(aS a).drop n=aS (a.drop n):=by simp[aS]
theorem uy (a:List Int) (n:Nat):(aS a).take n=aS (a.take n):=by simp[aS]
theorem oe {l:List ar} {i:Nat} (h:i<l.length):(l.take (i+1)).flatMap xa=(l.take i).flatMap xa++xa l[i]:=by
 rw[ek h,List.flatMap_append];simp
theorem vX {l:List ar} {i:Nat} (hi:i<=l.length) (hs:∀o∈l,o.numbers.length<=1048576):((l.take i).flatMap xa).length<=i * 1048576:=by
 induction i with
 | zero=>simp
 | succ i ih =>
   have hlt:i<l.length:=by omega
   rw[oe hlt,Zh]
   have h1:=ih (by omega)
   have h2:(xa l[i]).length<=1048576:=by
     have:=hs _ (Zb hlt)
     unfold xa
     split
     ·rw[YP];omega
     ·simp
   omega
theorem wO (m:ad):(pb m).length<=1:=by unfold pb;split <;> simp
theorem xx (f lo:Nat) (m:ad) (hsm:m.small 1048576) (h800:m.store.objects.length<=800) (hsem:∀o∈m.store.objects,o.kind=3->1<=o.numbers.length) (hp1:1<=m.processes.length):Ct Tryz.prog GL 82 [.cp f (m.tw lo)] (acw m):=by
 refine av Tryz.func82 rfl Tryz.ntmps82 rfl rfl fun w0 _ hG=>?_
 have hst:=en
 have hlo:=ar.len lo m.store.objects
 have hlp:=ag.len lo m.processes
 have hpl:=hsm.2.2.2.2.1.1
 have hrl:=hsm.2.2.2.2.2.1
 have hrl2:=aj m.ready
 have hnum:∀o∈m.store.objects,o.numbers.length<=1048576:=fun o h=>(hsm.2.1.2.1.2 o h).2
 have hsl:=fun(i:Nat) (h:i<=m.store.objects.length)=>vX h hnum
 have hnl:=wO m
 have hnow:pb m=if m.status=0 then [m.now] else []:=rfl
 unfold acw
 unfold ad.tw
 repeat' (first|refine H_ 2 ?_|((with_reducible apply jn (n:=0));rfl;rfl;kernel_rfl;kernel_rfl;rfl;kernel_rfl;rfl;rfl;rfl;rfl;intro ss bb))
 refine⟨?_⟩
 generalize ss=s4;generalize bb=b4
 apply gq (X:=Nat) [0] (fun b=>[(4,.ms s4 b 0 (pb m).length)]) (fun b=>[(s4,b,.row 1 (aS (pb m)))]) (fun _=>True)
 case hk=>(repeat (first|exact j9.nil|(apply j9.cons;rfl)))
 ·rw[hnow]
  by_cases hs:m.status=0
  ·rw[if_pos hs]
   repeat' (first|refine W_ ?_|refine ef ?_|((with_reducible apply dN);rfl;rfl;rfl;kernel_rfl;(repeat (first|with_reducible exact mh|with_reducible refine mt ?_));exact(rfl:_=1);omega;(intro bq;(repeat (first|with_reducible exact Upd.head _|with_reducible apply Upd.tail)));intro bb))
   exact eR _ trivial (.of _ nw_ od_ pk_)
  ·rw[if_neg hs]
   repeat' refine W_ ?_
   exact eR b4 trivial (.of _ nw_ od_ pk_)
 clear hnow
 intro b5 _
 generalize hN0:pb m=N0 at hnl |-
 have hap1:=sW N0 m.ready
 repeat' (first|refine W_ ?_|((with_reducible apply eD);rfl;rfl;rfl;kernel_rfl;(repeat (first|with_reducible exact mh|with_reducible refine mt ?_));exact aj _;exact hrl2;omega;exact hap1;(intro bq;(repeat (first|with_reducible exact Upd.head _|with_reducible apply Upd.tail)));intro bb))
 rw[<- Zh]
 apply ap (X:=Nat×Nat×List Int) [0] (fun x=>[(5,.int .i64 (x.1:Int)),(4,.ms s4 x.2.1 0 x.2.2.length)]) (fun x=>[(s4,x.2.1,.row 1 (aS x.2.2))]) (fun x=>x.1<=m.store.objects.length/\x.2.2=N0++m.ready++(m.store.objects.take x.1).flatMap xa) (fun x=>m.store.objects.length - x.1) (0,bb,N0++m.ready) ⟨Ze _,by simp⟩
 exact kp_;exact nw_
 ·exact .refl _
 rintro ⟨i,b6,A⟩ ⟨hi,hA⟩
 dsimp only at hi hA |-
 have hAl:A.length<=1+1048576+i * 1048576:=by
   rw[hA,Zh,Zh]
   have:=hsl i hi
   omega
 by_cases hlt:i<m.store.objects.length
 ·have hrow:=sy (lo:=lo) hlt
  have hsn:=oe hlt
  have hol:=hnum _ (Zb hlt)
  have hse:=hsem _ (Zb hlt)
  have hA2:A++xa m.store.objects[i]=N0++m.ready++(m.store.objects.take (i+1)).flatMap xa:=by rw[hsn,hA,Zk (N0++m.ready)]
  clear hsn hsem hsl hnum
  generalize m.store.objects[i]=o at hrow hol hse hA2
  obtain⟨ok,oc,fs,ns⟩:=o
  dsimp only at hrow hol hse
  unfold xa at hA2
  dsimp only at hA2
  have hnl2:=aj ns
  by_cases hk:ok=3
  ·rw[if_pos hk] at hA2
   have h1:=hse hk
   have hdr:=vC ns 1
   have hdl:=aj (ns.drop 1)
   have hdl2:(ns.drop 1).length<=1048576:=by rw[YP];omega
   have hap:=sW A (ns.drop 1)
   repeat' (first|refine W_ ?_|(refine ak ?_;intro ss bb)|refine ac ?_|refine acJ ?_|((with_reducible apply eD);rfl;rfl;rfl;kernel_rfl;(repeat (first|with_reducible exact mh|with_reducible refine mt ?_));exact aj _;exact hdl;omega;exact hap;(intro bq;(repeat (first|with_reducible exact Upd.head _|with_reducible apply Upd.tail)));intro bb))
   rw[<- Zh]
   exact ah (i+1,_,A++ns.drop 1) ⟨by dsimp only;omega,hA2⟩ (by dsimp only;omega) (.of _ nw_ od_ pk_)
  ·rw[if_neg hk,Zt] at hA2
   repeat' (first|refine W_ ?_|(refine ak ?_;intro ss bb)|refine ac ?_)
   exact ah (i+1,b6,A) ⟨by dsimp only;omega,hA2⟩ (by dsimp only;omega) (.of _ nw_ od_ pk_)
 obtain rfl:i=m.store.objects.length:=by omega
 rw[Zc (Zg _)] at hA
 have hAe:A=pb m++m.ready++wB m:=by rw[hA,hN0];rfl
 have hT:=ahA hAe
 have hF:=ahE hAe
 generalize alO m=r at hT hF |-
 clear hA hAe hN0 hap1 hsl hsem hnum
 replace hAl:A.length<=900000000:=by omega
 repeat' refine H_ 11 ?_
 refine⟨?_⟩
 refine oo (t:=4) rfl (aj _) (.head _) ?_
 have hll:=aj A
 repeat' refine W_ ?_
 apply ap (X:=Nat) [0,4] (fun i=>[(7,.int .i64 (i:Int))]) (fun _=>[]) (fun i=>i<=A.length/\(∀p∈A.take i,0<=p/\p<m.processes.length)/\(A.take i).Nodup) (fun i=>A.length - i) 0 ⟨Ze _,by simp,by simp⟩
 exact kp_;exact nw_
 ·exact .refl _
 rintro i ⟨hi,hin,hnd⟩
 try dsimp only
 by_cases hlt:i<A.length
 case neg =>
   obtain rfl:i=A.length:=by omega
   rw[Zc (Zg _)] at hin hnd
   rw[hT ⟨hin,hnd⟩]
   repeat' refine W_ ?_
   refine fj x_ rfl (.tmp _ _ rfl) (.tmp _ _ rfl) (fun _=>?_) (fun _=>?_)
   ·exact Fin.slFlat (Zg _) (lg _)
   ·exact Fin.flat rfl
 have hrow:=kD hlt
 have hta:=aY (p:=fun p:Int=>0<=p/\p<m.processes.length) hlt hin
 have hns:=q7 hlt hnd
 have hb1:¬ (0<=A[i]/\A[i]<m.processes.length)->r=none:=fun h=>hF fun k=>h (k.1 _ (Zb hlt))
 have hb2:A[i]∈A.take i->r=none:=fun h=>hF fun k=>uS hlt h k.2
 have htk:=uy A i
 have hhas:=xu (G:=GL) w0.heap.size (A.take i) A[i] (by rw[Zu];omega)
 have k1:=bC (G:=GL) A[i] 0 ((m.processes.length - 1:Nat):Int)
 generalize A[i]=p at hrow hta hns hb1 hb2 hhas k1
 by_cases hr:0<=p/\p<m.processes.length
 case neg =>
   rw[show inR p 0 ((m.processes.length - 1:Nat):Int)=false from by simp only[inR,decide_eq_false_iff_not];omega] at k1
   rw[hb1 hr]
   repeat' (first|refine V_ ?_|refine ai hG hst (k1) ?_)
   refine fj x_ rfl (.tmp _ _ rfl) (.tmp _ _ rfl) (fun _=>?_) (fun _=>?_)
   ·exact .nils 1
   ·exact Fin.flat rfl
 rw[show inR p 0 ((m.processes.length - 1:Nat):Int)=true from by simp only[inR,decide_eq_true_eq];omega] at k1
 by_cases hm:p∈A.take i
 ·rw[decide_eq_true hm] at hhas
  rw[hb2 hm]
  repeat' (first|refine V_ ?_|refine lQ ?_|refine ai hG hst (k1) ?_|refine ai hG hst (hhas) ?_)
  refine fj x_ rfl (.tmp _ _ rfl) (.tmp _ _ rfl) (fun _=>?_) (fun _=>?_)
  ·exact .nils 1
  ·exact Fin.flat rfl
 ·rw[decide_eq_false hm] at hhas
  repeat' (first|refine V_ ?_|refine lQ ?_|refine ai hG hst (k1) ?_|refine ai hG hst (hhas) ?_)
  exact ah (i+1) ⟨by omega,hta hr,hns hm⟩ (by omega) (.of _ nw_ od_ pk_)
theorem adk {l:List Int} (h:aS l=[]):l=[]:=by
 cases l with
 | nil=>rfl
 | cons a r=>simp[aS] at h
theorem oU {G:World->Prop} (lo:Nat) (l:List Int) (hn:l.length<=1048576):CtM Tryz.prog G 186 [.sl lo 1 (aS l)] [] (fun _:Nat×Nat=>True) (fun y=>[(y.1,y.2,.row 1 (aS l))]) (fun y=>.ms y.1 y.2 0 l.length):=by
 refine au Tryz.func186 rfl Tryz.ntmps186 rfl rfl rfl fun w0 R gs objsR hG hR=>?_
 obtain rfl:=hR.inv0
 clear hR
 have hlen:=aj l
 repeat' (first|refine W_ ?_|((with_reducible apply afo);rfl;rfl;rfl;kernel_rfl;intro bl hbl)|((with_reducible apply jn (n:=0));rfl;rfl;kernel_rfl;kernel_rfl;rfl;kernel_rfl;rfl;rfl;rfl;rfl;intro ss bb)|((with_reducible apply dN);rfl;rfl;rfl;kernel_rfl;(repeat (first|with_reducible exact mh|with_reducible refine mt ?_));(first|with_reducible assumption|exact aI _|exact aj _|exact aH _|exact Zf _|assumption|rfl);omega;(intro bq;(repeat (first|with_reducible exact Upd.head _|with_reducible apply Upd.tail)));intro bb)|refine c_ (fun hc=>?_) (fun hc=>?_))
 ·obtain rfl:=adk (hbl hc)
  refine eG 2 1 (by decide) rfl fun ss=>?_
  exact aw x_ rfl (ss,0) trivial rfl (.cons _ _ _ _ (.nil R)) (.refl _) (.tmp _ _ rfl) rfl
 ·exact aw x_ rfl (_,_) trivial rfl (.cons _ _ _ _ (.nil R)) (.refl _) (.tmp _ _ rfl) rfl
theorem agk {l2:Nat} {l:List aB} {i:Nat} (h:i<l.length):(l.map fun x=>[TV.sl l2 1 (aS (dps x))])[i]?=some [.sl l2 1 (aS (dps l[i]))]:=aK h
theorem ad6 {x:aB} {ds:List Int} (h:cx x.instrs=some ds):dps x=ds:=by unfold dps;rw[h];rfl
theorem adb (lo l2:Nat) (m:ad) (hsm:m.small 1048576) (hdep:∀c∈m.base.codes,kr c.instrs=true/\∃ds,cx c.instrs=some ds/\ds.length=c.instrs.length) (hsd:eY m)
   (hpl:∀(i:Nat) (h:i<m.contexts.length),m.contexts[i].mark=0->(0<=m.contexts[i].code/\m.contexts[i].code<m.base.codes.length)/\0<=m.contexts[i].pc) (at0:Int):Ct Tryz.prog GL 188 [.agg (m.tw lo),.sl l2 1 (m.base.codes.map fun x=>[TV.sl l2 1 (aS (dps x))]),.int .i64 at0] (fun _=>.bool (kg m at0)):=by
 refine av Tryz.func188 rfl Tryz.ntmps188 rfl rfl fun w0 _ hG=>?_
 have hst:=en
 have hlx:=ao.len lo m.contexts
 have hxl:=hsm.2.2.2.1.1
 have hcl2:=hsm.1.2.1.1
 have hxr:=fun(i:Nat) (h:i<m.contexts.length)=>dI (lo:=lo) (l:=m.contexts) h
 have hdr:=fun(i:Nat) (h:i<m.base.codes.length)=>agk (l2:=l2) h
 have hdl:(m.base.codes.map fun x=>[TV.sl l2 1 (aS (dps x))]).length=m.base.codes.length:=by simp
 have hon:=fun(k0 a:Int) h=>yU (G:=GL) w0.heap.size lo m hxl hsd k0 a h
 have hsx:=fun(i:Nat) (h:i<m.contexts.length)=>(hsm.2.2.2.1.2 _ (Zb h)).2.2.1.1
 have hsi:=fun(i:Nat) (h:i<m.base.codes.length)=>(hsm.1.2.1.2 _ (Zb h)).1
 have k1:=aP (G:=GL) at0 0 ((m.contexts.length:Int) - 1)
 generalize (m.base.codes.map fun x=>[TV.sl l2 1 (aS (dps x))])=dd at hdr hdl |-
 unfold ad.tw at hon |-
 by_cases hin:0<=at0/\at0<m.contexts.length
 case neg =>
   rw[kE fun h=>hin (by
     obtain⟨c,hc,_⟩:=h
     obtain⟨h0,h1,_⟩:=lW hc
     omega)]
   rw[show inR at0 0 ((m.contexts.length:Int) - 1)=false from by simp only[inR,decide_eq_false_iff_not];omega] at k1
   by_cases hz:1<=m.contexts.length
   ·rw[show (m.contexts.length:Int) - 1=((m.contexts.length - 1:Nat):Int) by omega] at k1
    repeat' (first|refine W_ ?_|refine aJ ?_|refine ae hG hst (k1) ?_)
    exact r1_
   ·repeat' (first|refine W_ ?_|refine aJ ?_|refine ae hG hst (k1) ?_)
    exact r1_
 rw[show inR at0 0 ((m.contexts.length:Int) - 1)=true from by simp only[inR,decide_eq_true_eq];omega] at k1
 rw[show (m.contexts.length:Int) - 1=((m.contexts.length - 1:Nat):Int) by omega] at k1
 obtain⟨u,rfl⟩:∃u:Nat,at0=u:=⟨at0.toNat,by omega⟩
 have hu:u<m.contexts.length:=by omega
 have hru:=hxr u hu
 by_cases hm0:m.contexts[u].mark=0
 case neg =>
   rw[kE fun h=>by
     obtain⟨c,hc,h0,_⟩:=h
     rw[dF hu] at hc
     cases hc
     exact hm0 h0]
   have hm0':m.contexts[u].mark≠0:=hm0
   generalize m.contexts[u]=c at hru hm0'
   repeat' (first|refine W_ ?_|refine aJ ?_|refine ae hG hst (k1) ?_)
   exact r1_
 have hm0':¬ m.contexts[u].mark≠0:=fun h=>h hm0
 have hiff:d7 m (u:Int)↔zG m 0 (u:Int):=⟨fun h=>by
   obtain⟨c,_,_,h3⟩:=h
   exact h3,fun h=>⟨_,dF hu,hm0,h⟩⟩
 clear hm0
 generalize m.contexts[u]=c at hru hm0'
 repeat' (first|refine W_ ?_|refine aJ ?_|refine ae hG hst (k1) ?_)
 apply ap (X:=Int×Int) [1,3] (fun x=>[(7,.int .i64 x.1),(8,.int .i64 x.2)]) (fun _=>[]) (fun x=>(-1<=x.1/\x.1<m.contexts.length)/\(d7 m (u:Int)↔zG m x.2 x.1)) (fun x=>(x.1+1).toNat) ((u:Int),0) ⟨by dsimp only;omega,hiff⟩
 exact kp_;exact nw_
 ·exact .refl _
 clear hiff k1 hru hm0'
 rintro ⟨k,less⟩ ⟨hk,hiff⟩
 dsimp only at hk hiff |-
 by_cases hneg:k<0
 ·rw[rP (hiff.2 (.out _ _ hneg))]
  repeat' refine W_ ?_
  exact r1_
 obtain⟨n,rfl⟩:∃n:Nat,k=n:=⟨k.toNat,by omega⟩
 have hn:n<m.contexts.length:=by omega
 have hrn:=hxr n hn
 have hst2:=hiff.trans (n8 hn)
 have hsn:=hsd n hn
 have hpn:=hpl n hn
 have hsz:=hsx n hn
 have hot:=hon m.contexts[n].sender m.contexts[n].other (by omega)
 clear hxr hpl hon hsd hsx
 have hF:oA m m.contexts[n] less=false->kg m (u:Int)=false:=fun h=>kE fun hc=>by have:=(hst2.1 hc).1;rw[h] at this;cases this
 have hT:oA m m.contexts[n] less=true->(d7 m (u:Int)↔zG m 1 m.contexts[n].sender):=fun h=>⟨fun hc=>(hst2.1 hc).2,fun hw=>hst2.2 ⟨h,hw⟩⟩
 clear hst2
 unfold oA at hF hT
 by_cases hm0:m.contexts[n].mark=0
 ·rw[if_pos hm0] at hF hT
  obtain⟨⟨c0,c1⟩,c2⟩:=hpn hm0
  obtain⟨q,hq⟩:∃q:Nat,m.contexts[n].code=q:=⟨m.contexts[n].code.toNat,by omega⟩
  obtain⟨p,hp⟩:∃p:Nat,m.contexts[n].pc=p:=⟨m.contexts[n].pc.toNat,by omega⟩
  have hql:q<m.base.codes.length:=by omega
  obtain⟨_,ds,hds,hdsl⟩:=hdep _ (Zb hql)
  have hB:=aa8 (less:=less) hq (Za hql) hp hds
  have hdq:=hdr q hql
  rw[ad6 hds] at hdq
  have hil:=hsi q hql
  rw[hB] at hF hT
  rw[hq,hp] at hrn
  rw[<- hdsl] at hF hT hil
  clear hB hdr hsi hot hds hdep hdsl
  have hol:=aj ds
  generalize m.contexts[n]=c at hrn hm0 hsn hT hF hsz
  obtain⟨mk,cc,pc,sd,ou,hm,⟨sk,sn,st⟩,slots,stack,values,oth,rt⟩:=c
  dsimp only at hrn hm0 hsn hT hF hsz
  have htl:=ab.len lo stack
  by_cases hpl:p<ds.length
  case neg =>
    rw[hF (by rw[decide_eq_false hpl,Zl])]
    repeat' (first|refine V_ ?_|(refine ak ?_;intro ss bb)|refine ac ?_)
    exact r1_
  rw[decide_eq_true hpl,Zn] at hF hT
  have hgp:=fG (o:=ds) (j:=p) (by omega)
  generalize hW:IntKind.i64.wrap (gd ds (p:Int) - less)=W at hF hT
  generalize gd ds (p:Int)=g at hgp hW hF hT
  by_cases hg0:0<=g
  case neg =>
    rw[hF (by rw[decide_eq_false hg0,Zl])]
    repeat' (first|refine V_ ?_|(refine ak ?_;intro ss bb)|refine ac ?_)
    exact r1_
  rw[decide_eq_true hg0,Zn] at hF hT
  have hg0':¬ g<0:=by omega
  by_cases hsW:(stack.length:Int)=W
  case neg =>
    have hsW':(stack.length:Int)≠W:=hsW
    rw[hF (decide_eq_false hsW)]
    repeat' (first|refine V_ ?_|(refine ak ?_;intro ss bb)|refine ac ?_)
    exact r1_
  have hsW':¬ (stack.length:Int)≠W:=fun h=>h hsW
  replace hT:=hT (decide_eq_true hsW)
  repeat' (first|refine V_ ?_|(refine ak ?_;intro ss bb)|refine ac ?_)
  exact ah (sd,1) ⟨by dsimp only;omega,hT⟩ (by dsimp only;omega) (.of _ nw_ od_ pk_)
 rw[if_neg hm0] at hF hT
 clear hpn hdr hsi hdep
 by_cases hm35:m.contexts[n].mark=3\/m.contexts[n].mark=5
 ·rw[if_pos hm35] at hF hT
  generalize onB m m.contexts[n].other m.contexts[n].sender=b at hot hF hT
  generalize m.contexts[n]=c at hrn hm0 hm35 hsn hT hot
  rcases hm35 with hm3|hm5
  ·have hm5:¬ c.mark=5:=by omega
   cases b
   ·rw[hF rfl]
    repeat' (first|refine W_ ?_|(refine ak ?_;intro ss bb)|refine ac ?_|refine ae hG hst (hot) ?_)
    exact r1_
   ·repeat' (first|refine W_ ?_|(refine ak ?_;intro ss bb)|refine ac ?_|refine ae hG hst (hot) ?_)
    exact ah (c.sender,1) ⟨by dsimp only;omega,hT rfl⟩ (by dsimp only;omega) (.of _ nw_ od_ pk_)
  ·have hm3:¬ c.mark=3:=by omega
   cases b
   ·rw[hF rfl]
    repeat' (first|refine W_ ?_|(refine ak ?_;intro ss bb)|refine ac ?_|refine ae hG hst (hot) ?_)
    exact r1_
   ·repeat' (first|refine W_ ?_|(refine ak ?_;intro ss bb)|refine ac ?_|refine ae hG hst (hot) ?_)
    exact ah (c.sender,1) ⟨by dsimp only;omega,hT rfl⟩ (by dsimp only;omega) (.of _ nw_ od_ pk_)
 ·rw[if_neg hm35] at hT
  have hm3:¬ m.contexts[n].mark=3:=fun h=>hm35 (.inl h)
  have hm5:¬ m.contexts[n].mark=5:=fun h=>hm35 (.inr h)
  generalize m.contexts[n]=c at hrn hm0 hm3 hm5 hsn hT
  repeat' (first|refine W_ ?_|(refine ak ?_;intro ss bb)|refine ac ?_)
  exact ah (c.sender,1) ⟨by dsimp only;omega,hT rfl⟩ (by dsimp only;omega) (.of _ nw_ od_ pk_)
end Go.Proofs.YtifcomgnmokimaaGreatDoor
