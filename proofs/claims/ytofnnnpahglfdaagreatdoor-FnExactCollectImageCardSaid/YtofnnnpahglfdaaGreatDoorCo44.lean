/- Part 44 of the proof: the texts RcE, RcF, RcG, RcFf, RcGf, RcY, RcZ, CoP, CoA, CoB, CoQ, CoC, CoD, CoL. -/
import Derived.Test.YtofnnnpahglfdaaGreatDoorCo43
import Derived.Test.YtofnnnpahglfdaaGreatDoorCo3
import Derived.Test.YtofnnnpahglfdaaGreatDoorCo42
import Derived.Test.YtofnnnpahglfdaaGreatDoorCo39
import Derived.Test.YtofnnnpahglfdaaGreatDoorCo41
import Derived.Test.YtofnnnpahglfdaaGreatDoorCo34
import Derived.Test.YtofnnnpahglfdaaGreatDoorCo40
import Derived.Test.YtofnnnpahglfdaaGreatDoorCo17
import Derived.Test.YtofnnnpahglfdaaGreatDoorCo31
set_option linter.all false
set_option maxHeartbeats 8000000
set_option maxRecDepth 20000
namespace Go.Proofs.YtofnnnpahglfdaaGreatDoor
open Go Go.RowKit
theorem Y_load_agg_me {P:Program} {w0:World} {env:Env} {objs:aJ} {dd:Option Nat} {T0:TypeId} {pos:String} {af:Array Edge} {g:Option (Nat×Bool)} {T:TypeId} {x:Operand} {out:List TV} {s b m j off:Nat} {rows:List (List TV)} {r0:List TV} (hA:agT T=true) (hT:mO P T=true) (hi:(P.info? T).isSome=true) (hs:P.cellsOf T=szT T) (hx:ev env x=some (.me s b m j off)) (hm:(s,b,aW.row m rows)∈objs) (hr:rows[j]?=some r0) (htk:ib (szT T) (r0.drop off) out):Yd P w0 env objs ⟨dd,.load T x,T0,pos,af,g⟩ (.agg out):=⟨jT rfl hT hi hs hx (fun _=>.me s b m j off rows r0 hm hr) htk⟩
section
variable {G:World->Prop} {s b f lo:Nat} {m:ah} {q:Rp}
theorem rcH (hst:aC G) (hN:vP m) (hsm:m.small 1048576) (n:Nat):RcH G s b f lo m q n:=by
 induction n using Nat.strongRecOn with
 | _ n ih=>exact⟨fun v hv hr=>acP hst hN hsm n ih v hv hr,fun l hl hv hr=>adj hst hN hsm n ih l hl hv hr,fun k h0 h1 hr=>abP hst hN hsm n ih k h0 h1 hr,fun k hk hr=>abw hst hN hsm n ih k hk hr⟩
end
section
variable {G:World->Prop}
def rN (l:List Bool):Nat:=(l.filter id).length
theorem acA (l:List Bool) (x:Bool):rN (l++[x])=rN l+(if x=true then 1 else 0):=by
 cases x <;> simp[rN,List.filter_append]
theorem aaU (l:List Bool):rN l<=l.length:=List.length_filter_le _ _
end
section
variable {G:World->Prop}
end
section
variable {G:World->Prop}
end
section
variable {G:World->Prop}
end
open Classical in
noncomputable def ar (m:ah):Mk4:=if h:∃t,yY m t then Classical.choose h else ig m
theorem yY.marks {m:ah} {t:Mk4} (h:yY m t):t=ar m:=by
 have he:∃t,yY m t:=⟨t,h⟩
 unfold ar
 rw[dif_pos he]
 exact h.eq (ZK he)
theorem aez (n:Nat):bR (List.replicate n false)=List.replicate n [TV.bool false]:=by simp[bR]
theorem adT (x e p c b o:Nat×Nat×aW) (R:aJ):bW (x::o::b::c::p::e::R) (x::e::p::c::b::o::R):=.perm (by
 have h:=ce (n:=7) [[x],[o],[b],[c],[p],[e],R] [0,5,4,3,2,1,6] rfl (by decide)
 simpa using h.symm)
section
variable {G:World->Prop} {f lo:Nat} {m:ah}
theorem zU (hst:aC G) (hN:vP m) (hsm:m.small 1048576):CtM Tryz.prog G 165 [.cp f (m.tw lo)] [] (fun _:Rp×(Nat×Nat)×List ab=>yY m (ar m))
   (fun y=>[(y.1.1.1,y.1.1.2,.row 1 (bR (ar m).o)),(y.1.2.1.1,y.1.2.1.2,.row 1 (bR (ar m).b)),(y.1.2.2.1.1,y.1.2.2.1.2,.row 1 (bR (ar m).c)),(y.1.2.2.2.1,y.1.2.2.2.2,.row 1 (bR (ar m).p)),(y.2.1.1,y.2.1.2,.row 3 (y.2.2.map (ab.tw 0)))])
   (fun y=>.agg [.ms y.1.1.1 y.1.1.2 0 (ar m).o.length,.ms y.1.2.1.1 y.1.2.1.2 0 (ar m).b.length,.ms y.1.2.2.1.1 y.1.2.2.1.2 0 (ar m).c.length,.ms y.1.2.2.2.1 y.1.2.2.2.2 0 (ar m).p.length,.ms y.2.1.1 y.2.1.2 0 y.2.2.length]):=by
 refine aA Tryz.func165 rfl Tryz.ntmps165 rfl rfl rfl fun w0 R gs objsR hG hR=>?_
 obtain rfl:=hR.inv0
 clear hR
 have x1:=hsm.2.1.2.1.1
 have x2:=hsm.2.2.1.1
 have x3:=hsm.2.2.2.1.1
 have x4:=hsm.2.2.2.2.1.1
 have x5:=hsm.2.2.2.2.2.1
 have y1:=az.len lo m.store.objects
 have y2:=ap.len lo m.blocks
 have y3:=aq.len lo m.contexts
 have y4:=ao.len lo m.processes
 have y5:=ae m.ready
 unfold ah.tw
 repeat' (first|refine W_ ?_|(refine am ?_;intro ss bb)|((with_reducible apply dv (id:=1) 27);kernel_rfl;kernel_rfl;kernel_rfl;rfl;(repeat (first|exact Cut.zero _|apply Cut.succ)))|((with_reducible apply m_q);exact ym_;rfl;exact eh)|((with_reducible apply cr);rfl;(intro p;try dsimp only);(repeat (first|exact TB.nil _|((with_reducible apply TB.cons);rfl;rfl;(first|exact .nil _|exact .put _ _ _ _ _ (.nil _)|exact .skip _ _ _ _ _ (.put _ _ _ _ _ (.nil _))|exact .skip _ _ _ _ _ (.skip _ _ _ _ _ (.put _ _ _ _ _ (.nil _)))|(repeat (first|exact .nil _|apply aY.put|apply aY.skip)));kernel_rfl)));rfl;kernel_rfl;kernel_rfl;exact eh)|((with_reducible apply gW);rfl;rfl;kernel_rfl)|((with_reducible apply aeP);(intro p;rfl);rfl;rfl;exact rfl;kernel_rfl;kernel_rfl;rfl;rfl;kernel_rfl;omega)|(with_reducible refine DM.nil _ _ _ ?_))
 generalize ss=s2;generalize bb=b2
 intro p hp
 refine aT (objs':=((p 26).a,(p 26).b,.box [.nils,.nils,.nils,.nils,.nils])::((p 24).a,(p 24).b,.row 1 (List.replicate m.processes.length [.bool false]))::((p 18).a,(p 18).b,.row 1 (List.replicate m.contexts.length [.bool false]))::((p 12).a,(p 12).b,.row 1 (List.replicate m.blocks.length [.bool false]))::((p 6).a,(p 6).b,.row 1 (List.replicate m.store.objects.length [.bool false]))::(s2,b2,.box [.nils,.nils,.nils,.nils,.nils])::R) (by rw[show ed _=[_,_,_,_,_] from rfl];simp only[ZB,ZM,Zo,Zh,ZD,Zz];rfl) ?_
 dsimp only [Nat.reduceAdd]
 obtain⟨q,hq⟩:∃q:Rp,q=(((p 6).a,(p 6).b),((p 12).a,(p 12).b),((p 18).a,(p 18).b),((p 24).a,(p 24).b)):=⟨_,rfl⟩
 rw[show (p 6).a=q.1.1 by rw[hq],show (p 6).b=q.1.2 by rw[hq],show (p 12).a=q.2.1.1 by rw[hq],show (p 12).b=q.2.1.2 by rw[hq],show (p 18).a=q.2.2.1.1 by rw[hq],show (p 18).b=q.2.2.1.2 by rw[hq],show (p 24).a=q.2.2.2.1 by rw[hq],show (p 24).b=q.2.2.2.2 by rw[hq]]
 generalize (p 26).a=s3
 generalize (p 26).b=b3
 clear hq hp
 repeat' (first|refine H_ 2 ?_|refine ac ?_)
 refine⟨?_⟩
 obtain⟨t0,ht0⟩:∃t0:Mk4×List ab,t0=(ig m,[]):=⟨_,rfl⟩
 refine fS 4 3 (by decide) rfl fun se=>?_
 obtain⟨z,hz⟩:∃z:Nat×Nat,z=(se,0):=⟨_,rfl⟩
 refine aV (objs':=(s3,b3,.box [.ms q.1.1 q.1.2 0 t0.1.o.length,.ms q.2.1.1 q.2.1.2 0 t0.1.b.length,.ms q.2.2.1.1 q.2.2.1.2 0 t0.1.c.length,.ms q.2.2.2.1 q.2.2.2.2 0 t0.1.p.length,.ms z.1 z.2 0 t0.2.length])::(q.1.1,q.1.2,.row 1 (bR t0.1.o))::(q.2.1.1,q.2.1.2,.row 1 (bR t0.1.b))::(q.2.2.1.1,q.2.2.1.2,.row 1 (bR t0.1.c))::(q.2.2.2.1,q.2.2.2.2,.row 1 (bR t0.1.p))::(z.1,z.2,.row 3 (t0.2.map (ab.tw 0)))::(s2,b2,.box [.nils,.nils,.nils,.nils,.nils])::R) (.trans (bK (by simp[ht0,hz,ig,aez];done)) (adT _ _ _ _ _ _ _)) ?_
 clear hz
 have hw0:Wk m t0:=ht0 ▸ Wk.start m
 by_cases h0:m.status=0
 ·have hnw:=hN.now
  have hA0:Nd.prc m.now.toNat∈ku m:=Zk _ (by rw[if_pos h0];exact List.mem_singleton.2 rfl)
  have c1:=dF (s:=s3) (b:=b3) (q:=q) hst hsm (tF m.now) [.prc m.now.toNat] (jS hnw.1 hnw.2 (.root _ hA0)) t0 z hw0
  rw[show (tF m.now).kind=9 from rfl,show (tF m.now).number=m.now from rfl,show (tF m.now).text=⟨#[]⟩ from rfl] at c1
  repeat' (first|refine W_ ?_|refine fg ?_|((with_reducible apply aB);rfl;kernel_rfl;(repeat (first|exact ay.nil|((with_reducible apply ay.cons);rfl)));exact hG;exact c1;exact .cons _ _ _ _ (.cons _ _ _ _ (.cons _ _ _ _ (.cons _ _ _ _ (.cons _ _ _ _ (.cons _ _ _ _ (.nil _))))));intro u1 a1;refine aT (objs':=(s3,b3,_)::(q.1.1,q.1.2,_)::(q.2.1.1,q.2.1.2,_)::(q.2.2.1.1,q.2.2.1.2,_)::(q.2.2.2.1,q.2.2.2.2,_)::(u1.1.1,u1.1.2,_)::(s2,b2,_)::R) rfl ?_))
  have hA:Wp m (if m.status=0 then [Nd.prc m.now.toNat] else []) t0 u1.2:=by rw[if_pos h0];exact a1
  clear c1 a1
  have hB0:Wp m ((if m.status=0 then [Nd.prc m.now.toNat] else [])++(m.ready.take 0).map (fun p=>Nd.prc p.toNat)) t0 u1.2:=by simpa using hA
  apply aj (X:=Nat×(Nat×Nat)×(Mk4×List ab)) [0,2,3,1000000] (fun y=>[(4,.int .i64 (y.1:Int))])
    (fun y=>(s3,b3,.box [.ms q.1.1 q.1.2 0 y.2.2.1.o.length,.ms q.2.1.1 q.2.1.2 0 y.2.2.1.b.length,.ms q.2.2.1.1 q.2.2.1.2 0 y.2.2.1.c.length,.ms q.2.2.2.1 q.2.2.2.2 0 y.2.2.1.p.length,.ms y.2.1.1 y.2.1.2 0 y.2.2.2.length])::(q.1.1,q.1.2,.row 1 (bR y.2.2.1.o))::(q.2.1.1,q.2.1.2,.row 1 (bR y.2.2.1.b))::(q.2.2.1.1,q.2.2.1.2,.row 1 (bR y.2.2.1.c))::(q.2.2.2.1,q.2.2.2.2,.row 1 (bR y.2.2.1.p))::(y.2.1.1,y.2.1.2,.row 3 (y.2.2.2.map (ab.tw 0)))::(s2,b2,.box [.nils,.nils,.nils,.nils,.nils])::R)
    (fun y=>y.1<=m.ready.length/\Wp m ((if m.status=0 then [Nd.prc m.now.toNat] else [])++(m.ready.take y.1).map (fun p=>Nd.prc p.toNat)) t0 y.2.2) (fun y=>m.ready.length - y.1) (0,u1.1,u1.2) ⟨Zd _,hB0⟩
  exact kp_;exact nw_
  ·exact .refl _
  rintro ⟨i,z2,u⟩ ⟨hi,hu⟩
  dsimp only at hi hu |-
  by_cases hlt:i<m.ready.length
  ·have hgi:(aL m.ready)[i]?=some [.int .i64 m.ready[i]]:=aK hlt
   have hrd:=hN.rdy _ (Zb hlt)
   have hro:Nd.prc m.ready[i].toNat∈ku m:=Zj _ (Zk _ (List.mem_map.2 ⟨_,Zb hlt,rfl⟩))
   have hsn:(m.ready.take (i+1)).map (fun p=>Nd.prc p.toNat)=(m.ready.take i).map (fun p=>Nd.prc p.toNat)++[.prc m.ready[i].toNat]:=by rw[<- Z9 hlt,Z1];rfl
   generalize m.ready[i]=k at hgi hrd hro hsn
   have c2:=dF (s:=s3) (b:=b3) (q:=q) hst hsm (tF k) [.prc k.toNat] (jS hrd.1 hrd.2 (.root _ hro)) u z2 hu.wk
   rw[show (tF k).kind=9 from rfl,show (tF k).number=k from rfl,show (tF k).text=⟨#[]⟩ from rfl] at c2
   repeat' (first|refine W_ ?_|refine fg ?_|((with_reducible apply aB);rfl;kernel_rfl;(repeat (first|exact ay.nil|((with_reducible apply ay.cons);rfl)));exact hG;exact c2;exact .cons _ _ _ _ (.cons _ _ _ _ (.cons _ _ _ _ (.cons _ _ _ _ (.cons _ _ _ _ (.cons _ _ _ _ (.nil _))))));intro u3 a3;refine aT (objs':=(s3,b3,_)::(q.1.1,q.1.2,_)::(q.2.1.1,q.2.1.2,_)::(q.2.2.1.1,q.2.2.1.2,_)::(q.2.2.2.1,q.2.2.2.2,_)::(u3.1.1,u3.1.2,_)::(s2,b2,_)::R) rfl ?_))
   refine ag (i+1,u3.1,u3.2) ⟨by dsimp only;omega,by dsimp only;rw[hsn,<- Zh];exact hu.trans a3⟩ (by dsimp only;omega) (.of _ nw_ od_ (.refl _))
  ·obtain rfl:i=m.ready.length:=by omega
   rw[Zc (Zf _)] at hu
   have c2:=dF (s:=s3) (b:=b3) (q:=q) hst hsm m.value (eg m.value) (fo hN.val (fun x hx=>.root _ (Zj _ (Zj _ hx)))) u z2 hu.wk
   repeat' (first|refine W_ ?_|((with_reducible apply aB);rfl;kernel_rfl;(repeat (first|exact ay.nil|((with_reducible apply ay.cons);rfl)));exact hG;exact c2;exact .cons _ _ _ _ (.cons _ _ _ _ (.cons _ _ _ _ (.cons _ _ _ _ (.cons _ _ _ _ (.cons _ _ _ _ (.nil _))))));intro u3 a3;refine aT (objs':=(s3,b3,_)::(q.1.1,q.1.2,_)::(q.2.1.1,q.2.1.2,_)::(q.2.2.1.1,q.2.2.1.2,_)::(q.2.2.2.1,q.2.2.2.2,_)::(u3.1.1,u3.1.2,_)::(s2,b2,_)::R) rfl ?_))
   have hC:Wp m (ku m) (ig m,[]) u3.2:=by
     have:=hu.trans a3
     rw[Zh,ht0] at this
     exact this
   clear hu a3 c2
   apply aj (X:=Nat×(Nat×Nat)×(Mk4×List ab)) [0,2,3,1000000] (fun y=>[(5,.int .i64 (y.1:Int))])
     (fun y=>(s3,b3,.box [.ms q.1.1 q.1.2 0 y.2.2.1.o.length,.ms q.2.1.1 q.2.1.2 0 y.2.2.1.b.length,.ms q.2.2.1.1 q.2.2.1.2 0 y.2.2.1.c.length,.ms q.2.2.2.1 q.2.2.2.2 0 y.2.2.1.p.length,.ms y.2.1.1 y.2.1.2 0 y.2.2.2.length])::(q.1.1,q.1.2,.row 1 (bR y.2.2.1.o))::(q.2.1.1,q.2.1.2,.row 1 (bR y.2.2.1.b))::(q.2.2.1.1,q.2.2.1.2,.row 1 (bR y.2.2.1.c))::(q.2.2.2.1,q.2.2.2.2,.row 1 (bR y.2.2.1.p))::(y.2.1.1,y.2.1.2,.row 3 (y.2.2.2.map (ab.tw 0)))::(s2,b2,.box [.nils,.nils,.nils,.nils,.nils])::R)
     (fun y=>Wd m y.1 y.2.2) (fun y=>zI m - y.1) (0,u3.1,u3.2) (Wd.start hC)
   exact kp_;exact nw_
   ·exact .refl _
   rintro ⟨i,z4,t4,L⟩ hd
   dsimp only at hd |-
   have hle:=hd.le
   have htl:=hd.wk.len
   have htot:zI m<=4194304:=by unfold zI;omega
   dsimp only at hle htl
   by_cases hlt:i<L.length
   ·have hgi:(L.map (ab.tw 0))[i]?=some (L[i].tw 0):=aK hlt
    have hL:L[i]?=some L[i]:=Za hlt
    have hok:=hd.wk.ok _ (Zb hlt)
    have hrc:=hd.wk.rch _ (Zb hlt)
    generalize L[i]=v at hgi hL hok hrc
    rw[show v.tw 0=[.int .i64 v.kind,.int .i64 v.number,.str v.text] from rfl] at hgi
    have hLl:(L.map (ab.tw 0)).length=L.length:=Ze _
    have c4:=uq (s:=s3) (b:=b3) (q:=q) (f:=f) (lo:=lo) hst hN hsm v hok hrc (t4,L) z4 hd.wk
    unfold ah.tw at c4
    repeat' (first|refine W_ ?_|((with_reducible apply aB);rfl;kernel_rfl;(repeat (first|exact ay.nil|((with_reducible apply ay.cons);rfl)));exact hG;exact c4;exact .cons _ _ _ _ (.cons _ _ _ _ (.cons _ _ _ _ (.cons _ _ _ _ (.cons _ _ _ _ (.cons _ _ _ _ (.nil _))))));intro u5 a5;refine aT (objs':=(s3,b3,_)::(q.1.1,q.1.2,_)::(q.2.1.1,q.2.1.2,_)::(q.2.2.1.1,q.2.2.1.2,_)::(q.2.2.2.1,q.2.2.2.2,_)::(u5.1.1,u5.1.2,_)::(s2,b2,_)::R) rfl ?_))
    refine ag (i+1,u5.1,u5.2) (hd.next hL a5) (by dsimp only;omega) (.of _ nw_ od_ (.refl _))
   ·obtain rfl:i=L.length:=by omega
    have hmk:t4=ar m:=(Wd.full (s:=(t4,L)) hd).marks
    subst hmk
    repeat' (first|refine W_ ?_|refine ac ?_)
    exact aD (t1:=.agg [.ms q.1.1 q.1.2 0 (ar m).o.length,.ms q.2.1.1 q.2.1.2 0 (ar m).b.length,.ms q.2.2.1.1 q.2.2.1.2 0 (ar m).c.length,.ms q.2.2.2.1 q.2.2.2.2 0 (ar m).p.length,.ms z4.1 z4.2 0 L.length]) x_ rfl (q,z4,L) (Wd.full (s:=(ar m,L)) hd) rfl (.app _ R) (.sub (.cons _ (.cons_cons _ (.cons_cons _ (.cons_cons _ (.cons_cons _ (.cons_cons _ (.cons _ (Z0 _))))))))) (.cell _ _ _ _ _ rfl mm_ (by kernel_rfl) (by kernel_rfl) (by kernel_rfl)) rfl
 ·repeat' refine W_ ?_
  obtain⟨u1,hu1⟩:∃u1:(Nat×Nat)×(Mk4×List ab),u1=(z,t0):=⟨_,rfl⟩
  have hA:Wp m (if m.status=0 then [Nd.prc m.now.toNat] else []) t0 u1.2:=by rw[if_neg h0,hu1];exact Wp.refl hw0 fun x hx=>by simp at hx
  rw[show z=u1.1 by rw[hu1]] 
  rw[show t0=u1.2 by rw[hu1]]
  have hB0:Wp m ((if m.status=0 then [Nd.prc m.now.toNat] else [])++(m.ready.take 0).map (fun p=>Nd.prc p.toNat)) t0 u1.2:=by simpa using hA
  apply aj (X:=Nat×(Nat×Nat)×(Mk4×List ab)) [0,2,3,1000000] (fun y=>[(4,.int .i64 (y.1:Int))])
    (fun y=>(s3,b3,.box [.ms q.1.1 q.1.2 0 y.2.2.1.o.length,.ms q.2.1.1 q.2.1.2 0 y.2.2.1.b.length,.ms q.2.2.1.1 q.2.2.1.2 0 y.2.2.1.c.length,.ms q.2.2.2.1 q.2.2.2.2 0 y.2.2.1.p.length,.ms y.2.1.1 y.2.1.2 0 y.2.2.2.length])::(q.1.1,q.1.2,.row 1 (bR y.2.2.1.o))::(q.2.1.1,q.2.1.2,.row 1 (bR y.2.2.1.b))::(q.2.2.1.1,q.2.2.1.2,.row 1 (bR y.2.2.1.c))::(q.2.2.2.1,q.2.2.2.2,.row 1 (bR y.2.2.1.p))::(y.2.1.1,y.2.1.2,.row 3 (y.2.2.2.map (ab.tw 0)))::(s2,b2,.box [.nils,.nils,.nils,.nils,.nils])::R)
    (fun y=>y.1<=m.ready.length/\Wp m ((if m.status=0 then [Nd.prc m.now.toNat] else [])++(m.ready.take y.1).map (fun p=>Nd.prc p.toNat)) t0 y.2.2) (fun y=>m.ready.length - y.1) (0,u1.1,u1.2) ⟨Zd _,hB0⟩
  exact kp_;exact nw_
  ·exact .refl _
  rintro ⟨i,z2,u⟩ ⟨hi,hu⟩
  dsimp only at hi hu |-
  by_cases hlt:i<m.ready.length
  ·have hgi:(aL m.ready)[i]?=some [.int .i64 m.ready[i]]:=aK hlt
   have hrd:=hN.rdy _ (Zb hlt)
   have hro:Nd.prc m.ready[i].toNat∈ku m:=Zj _ (Zk _ (List.mem_map.2 ⟨_,Zb hlt,rfl⟩))
   have hsn:(m.ready.take (i+1)).map (fun p=>Nd.prc p.toNat)=(m.ready.take i).map (fun p=>Nd.prc p.toNat)++[.prc m.ready[i].toNat]:=by rw[<- Z9 hlt,Z1];rfl
   generalize m.ready[i]=k at hgi hrd hro hsn
   have c2:=dF (s:=s3) (b:=b3) (q:=q) hst hsm (tF k) [.prc k.toNat] (jS hrd.1 hrd.2 (.root _ hro)) u z2 hu.wk
   rw[show (tF k).kind=9 from rfl,show (tF k).number=k from rfl,show (tF k).text=⟨#[]⟩ from rfl] at c2
   repeat' (first|refine W_ ?_|refine fg ?_|((with_reducible apply aB);rfl;kernel_rfl;(repeat (first|exact ay.nil|((with_reducible apply ay.cons);rfl)));exact hG;exact c2;exact .cons _ _ _ _ (.cons _ _ _ _ (.cons _ _ _ _ (.cons _ _ _ _ (.cons _ _ _ _ (.cons _ _ _ _ (.nil _))))));intro u3 a3;refine aT (objs':=(s3,b3,_)::(q.1.1,q.1.2,_)::(q.2.1.1,q.2.1.2,_)::(q.2.2.1.1,q.2.2.1.2,_)::(q.2.2.2.1,q.2.2.2.2,_)::(u3.1.1,u3.1.2,_)::(s2,b2,_)::R) rfl ?_))
   refine ag (i+1,u3.1,u3.2) ⟨by dsimp only;omega,by dsimp only;rw[hsn,<- Zh];exact hu.trans a3⟩ (by dsimp only;omega) (.of _ nw_ od_ (.refl _))
  ·obtain rfl:i=m.ready.length:=by omega
   rw[Zc (Zf _)] at hu
   have c2:=dF (s:=s3) (b:=b3) (q:=q) hst hsm m.value (eg m.value) (fo hN.val (fun x hx=>.root _ (Zj _ (Zj _ hx)))) u z2 hu.wk
   repeat' (first|refine W_ ?_|((with_reducible apply aB);rfl;kernel_rfl;(repeat (first|exact ay.nil|((with_reducible apply ay.cons);rfl)));exact hG;exact c2;exact .cons _ _ _ _ (.cons _ _ _ _ (.cons _ _ _ _ (.cons _ _ _ _ (.cons _ _ _ _ (.cons _ _ _ _ (.nil _))))));intro u3 a3;refine aT (objs':=(s3,b3,_)::(q.1.1,q.1.2,_)::(q.2.1.1,q.2.1.2,_)::(q.2.2.1.1,q.2.2.1.2,_)::(q.2.2.2.1,q.2.2.2.2,_)::(u3.1.1,u3.1.2,_)::(s2,b2,_)::R) rfl ?_))
   have hC:Wp m (ku m) (ig m,[]) u3.2:=by
     have:=hu.trans a3
     rw[Zh,ht0] at this
     exact this
   clear hu a3 c2
   apply aj (X:=Nat×(Nat×Nat)×(Mk4×List ab)) [0,2,3,1000000] (fun y=>[(5,.int .i64 (y.1:Int))])
     (fun y=>(s3,b3,.box [.ms q.1.1 q.1.2 0 y.2.2.1.o.length,.ms q.2.1.1 q.2.1.2 0 y.2.2.1.b.length,.ms q.2.2.1.1 q.2.2.1.2 0 y.2.2.1.c.length,.ms q.2.2.2.1 q.2.2.2.2 0 y.2.2.1.p.length,.ms y.2.1.1 y.2.1.2 0 y.2.2.2.length])::(q.1.1,q.1.2,.row 1 (bR y.2.2.1.o))::(q.2.1.1,q.2.1.2,.row 1 (bR y.2.2.1.b))::(q.2.2.1.1,q.2.2.1.2,.row 1 (bR y.2.2.1.c))::(q.2.2.2.1,q.2.2.2.2,.row 1 (bR y.2.2.1.p))::(y.2.1.1,y.2.1.2,.row 3 (y.2.2.2.map (ab.tw 0)))::(s2,b2,.box [.nils,.nils,.nils,.nils,.nils])::R)
     (fun y=>Wd m y.1 y.2.2) (fun y=>zI m - y.1) (0,u3.1,u3.2) (Wd.start hC)
   exact kp_;exact nw_
   ·exact .refl _
   rintro ⟨i,z4,t4,L⟩ hd
   dsimp only at hd |-
   have hle:=hd.le
   have htl:=hd.wk.len
   have htot:zI m<=4194304:=by unfold zI;omega
   dsimp only at hle htl
   by_cases hlt:i<L.length
   ·have hgi:(L.map (ab.tw 0))[i]?=some (L[i].tw 0):=aK hlt
    have hL:L[i]?=some L[i]:=Za hlt
    have hok:=hd.wk.ok _ (Zb hlt)
    have hrc:=hd.wk.rch _ (Zb hlt)
    generalize L[i]=v at hgi hL hok hrc
    rw[show v.tw 0=[.int .i64 v.kind,.int .i64 v.number,.str v.text] from rfl] at hgi
    have hLl:(L.map (ab.tw 0)).length=L.length:=Ze _
    have c4:=uq (s:=s3) (b:=b3) (q:=q) (f:=f) (lo:=lo) hst hN hsm v hok hrc (t4,L) z4 hd.wk
    unfold ah.tw at c4
    repeat' (first|refine W_ ?_|((with_reducible apply aB);rfl;kernel_rfl;(repeat (first|exact ay.nil|((with_reducible apply ay.cons);rfl)));exact hG;exact c4;exact .cons _ _ _ _ (.cons _ _ _ _ (.cons _ _ _ _ (.cons _ _ _ _ (.cons _ _ _ _ (.cons _ _ _ _ (.nil _))))));intro u5 a5;refine aT (objs':=(s3,b3,_)::(q.1.1,q.1.2,_)::(q.2.1.1,q.2.1.2,_)::(q.2.2.1.1,q.2.2.1.2,_)::(q.2.2.2.1,q.2.2.2.2,_)::(u5.1.1,u5.1.2,_)::(s2,b2,_)::R) rfl ?_))
    refine ag (i+1,u5.1,u5.2) (hd.next hL a5) (by dsimp only;omega) (.of _ nw_ od_ (.refl _))
   ·obtain rfl:i=L.length:=by omega
    have hmk:t4=ar m:=(Wd.full (s:=(t4,L)) hd).marks
    subst hmk
    repeat' (first|refine W_ ?_|refine ac ?_)
    exact aD (t1:=.agg [.ms q.1.1 q.1.2 0 (ar m).o.length,.ms q.2.1.1 q.2.1.2 0 (ar m).b.length,.ms q.2.2.1.1 q.2.2.1.2 0 (ar m).c.length,.ms q.2.2.2.1 q.2.2.2.2 0 (ar m).p.length,.ms z4.1 z4.2 0 L.length]) x_ rfl (q,z4,L) (Wd.full (s:=(ar m,L)) hd) rfl (.app _ R) (.sub (.cons _ (.cons_cons _ (.cons_cons _ (.cons_cons _ (.cons_cons _ (.cons_cons _ (.cons _ (Z0 _))))))))) (.cell _ _ _ _ _ rfl mm_ (by kernel_rfl) (by kernel_rfl) (by kernel_rfl)) rfl
end
theorem aca (x p c b o:Nat×Nat×aW) (R:aJ):bW (x::o::b::c::p::R) (x::p::c::b::o::R):=.perm (by
 have h:=ce (n:=6) [[x],[o],[b],[c],[p],R] [0,4,3,2,1,5] rfl (by decide)
 simpa using h.symm)
section
variable {G:World->Prop} {f lo:Nat} {m:ah}
theorem afc (hst:aC G) (hN:vP m) (hsm:m.small 1048576):CtM Tryz.prog G 82 [.cp f (m.tw lo)] [] (fun _:(Nat×Nat)×Rp=>yY m (ar m))
   (fun y=>rcO y.1.1 y.1.2 f lo m y.2 (ar m)) (fun y=>.mp y.1.1 y.1.2 0):=by
 refine aA Tryz.func82 rfl Tryz.ntmps82 rfl rfl rfl fun w0 R gs objsR hG hR=>?_
 obtain rfl:=hR.inv0
 clear hR
 have x1:=hsm.2.1.2.1.1
 have x2:=hsm.2.2.1.1
 have x3:=hsm.2.2.2.1.1
 have x4:=hsm.2.2.2.2.1.1
 have x5:=hsm.2.2.2.2.2.1
 have y1:=az.len lo m.store.objects
 have y2:=ap.len lo m.blocks
 have y3:=aq.len lo m.contexts
 have y4:=ao.len lo m.processes
 have y5:=ae m.ready
 unfold ah.tw
 repeat' (first|refine W_ ?_|((with_reducible apply dv (id:=1) 27);kernel_rfl;kernel_rfl;kernel_rfl;rfl;(repeat (first|exact Cut.zero _|apply Cut.succ)))|((with_reducible apply m_q);exact ym_;rfl;exact eh)|((with_reducible apply cr);rfl;(intro p;try dsimp only);(repeat (first|exact TB.nil _|((with_reducible apply TB.cons);rfl;rfl;(first|exact .nil _|exact .put _ _ _ _ _ (.nil _)|exact .skip _ _ _ _ _ (.put _ _ _ _ _ (.nil _))|exact .skip _ _ _ _ _ (.skip _ _ _ _ _ (.put _ _ _ _ _ (.nil _)))|(repeat (first|exact .nil _|apply aY.put|apply aY.skip)));kernel_rfl)));rfl;kernel_rfl;kernel_rfl;exact eh)|((with_reducible apply aeP);(intro p;rfl);rfl;rfl;exact rfl;kernel_rfl;kernel_rfl;rfl;rfl;kernel_rfl;omega)|(with_reducible refine DM.nil _ _ _ ?_))
 intro p hp
 refine aT (objs':=((p 25).a,(p 25).b,.row 1 (List.replicate m.processes.length [.bool false]))::((p 19).a,(p 19).b,.row 1 (List.replicate m.contexts.length [.bool false]))::((p 13).a,(p 13).b,.row 1 (List.replicate m.blocks.length [.bool false]))::((p 7).a,(p 7).b,.row 1 (List.replicate m.store.objects.length [.bool false]))::R) (by rw[show ed _=[_,_,_,_] from rfl];simp only[ZB,ZM,Zo,Zh,ZD,Zz];rfl) ?_
 dsimp only [Nat.reduceAdd]
 obtain⟨q,hq⟩:∃q:Rp,q=(((p 7).a,(p 7).b),((p 13).a,(p 13).b),((p 19).a,(p 19).b),((p 25).a,(p 25).b)):=⟨_,rfl⟩
 rw[show (p 7).a=q.1.1 by rw[hq],show (p 7).b=q.1.2 by rw[hq],show (p 13).a=q.2.1.1 by rw[hq],show (p 13).b=q.2.1.2 by rw[hq],show (p 19).a=q.2.2.1.1 by rw[hq],show (p 19).b=q.2.2.1.2 by rw[hq],show (p 25).a=q.2.2.2.1 by rw[hq],show (p 25).b=q.2.2.2.2 by rw[hq]]
 clear hq hp
 repeat' (first|refine H_ 2 ?_|((with_reducible apply j4);rfl;rfl;rfl;intro ss bb))
 refine⟨?_⟩
 generalize ss=s3;generalize bb=b3
 obtain⟨t0,ht0⟩:∃t0:Mk4,t0=ig m:=⟨_,rfl⟩
 refine aV (objs':=(s3,b3,.box [.cp f (m.tw lo),.ms q.1.1 q.1.2 0 t0.o.length,.ms q.2.1.1 q.2.1.2 0 t0.b.length,.ms q.2.2.1.1 q.2.2.1.2 0 t0.c.length,.ms q.2.2.2.1 q.2.2.2.2 0 t0.p.length])::(q.1.1,q.1.2,.row 1 (bR t0.o))::(q.2.1.1,q.2.1.2,.row 1 (bR t0.b))::(q.2.2.1.1,q.2.2.1.2,.row 1 (bR t0.c))::(q.2.2.2.1,q.2.2.2.2,.row 1 (bR t0.p))::R) (.trans (bK (by simp[ht0,ig,aez,ah.tw];done)) (aca _ _ _ _ _ _)) ?_
 have hf0:t0.fits m:=by rw[ht0];simp[ig,Mk4.fits]
 by_cases h0:m.status=0
 ·obtain⟨nw,hnw⟩:=Z5 hN.now.1
  have hnl:=hN.now.2
  have hA0:Nd.prc nw∈ku m:=Zk _ (by rw[if_pos h0,hnw];exact List.mem_singleton.2 rfl)
  have c1:=(rcH (s:=s3) (b:=b3) (f:=f) (lo:=lo) (q:=q) hst hN hsm t0.un).prc nw (by omega) (.root _ hA0) t0 hf0 (Zf _)
  rw[<- hnw] at c1
  unfold ah.tw
  repeat' (first|refine W_ ?_|((with_reducible apply aB);rfl;kernel_rfl;(repeat (first|exact ay.nil|((with_reducible apply ay.cons);rfl)));exact hG;exact c1;exact .cons _ _ _ _ (.cons _ _ _ _ (.cons _ _ _ _ (.cons _ _ _ _ (.cons _ _ _ _ (.nil _)))));intro u1 a1;refine aT (objs':=(s3,b3,_)::(q.1.1,q.1.2,_)::(q.2.1.1,q.2.1.2,_)::(q.2.2.1.1,q.2.2.1.2,_)::(q.2.2.2.1,q.2.2.2.2,_)::R) rfl ?_))
  have hA:gR m (if m.status=0 then [Nd.prc m.now.toNat] else []) t0 u1:=by rw[if_pos h0,hnw];exact a1
  clear c1 a1
  have hB0:gR m ((if m.status=0 then [Nd.prc m.now.toNat] else [])++(m.ready.take 0).map (fun p=>Nd.prc p.toNat)) t0 u1:=by simpa using hA
  apply aj (X:=Nat×Mk4) [0,3,48,49,1000000] (fun y=>[(50,.int .i64 (y.1:Int))])
    (fun y=>(s3,b3,.box [.cp f (m.tw lo),.ms q.1.1 q.1.2 0 y.2.o.length,.ms q.2.1.1 q.2.1.2 0 y.2.b.length,.ms q.2.2.1.1 q.2.2.1.2 0 y.2.c.length,.ms q.2.2.2.1 q.2.2.2.2 0 y.2.p.length])::(q.1.1,q.1.2,.row 1 (bR y.2.o))::(q.2.1.1,q.2.1.2,.row 1 (bR y.2.b))::(q.2.2.1.1,q.2.2.1.2,.row 1 (bR y.2.c))::(q.2.2.2.1,q.2.2.2.2,.row 1 (bR y.2.p))::R)
    (fun y=>y.1<=m.ready.length/\gR m ((if m.status=0 then [Nd.prc m.now.toNat] else [])++(m.ready.take y.1).map (fun p=>Nd.prc p.toNat)) t0 y.2) (fun y=>m.ready.length - y.1) (0,u1) ⟨Zd _,hB0⟩
  exact kp_;exact nw_
  ·exact .refl _
  rintro ⟨i,u⟩ ⟨hi,hu⟩
  dsimp only at hi hu |-
  by_cases hlt:i<m.ready.length
  ·have hgi:(aL m.ready)[i]?=some [.int .i64 m.ready[i]]:=aK hlt
   have hrd:=hN.rdy _ (Zb hlt)
   have hro:Nd.prc m.ready[i].toNat∈ku m:=Zj _ (Zk _ (List.mem_map.2 ⟨_,Zb hlt,rfl⟩))
   have hsn:(m.ready.take (i+1)).map (fun p=>Nd.prc p.toNat)=(m.ready.take i).map (fun p=>Nd.prc p.toNat)++[.prc m.ready[i].toNat]:=by rw[<- Z9 hlt,Z1];rfl
   generalize m.ready[i]=k at hgi hrd hro hsn
   obtain⟨j,rfl⟩:=Z5 hrd.1
   have c2:=(rcH (s:=s3) (b:=b3) (f:=f) (lo:=lo) (q:=q) hst hN hsm u.un).prc j (by omega) (.root _ hro) u hu.fits (Zf _)
   repeat' (first|refine W_ ?_|((with_reducible apply aB);rfl;kernel_rfl;(repeat (first|exact ay.nil|((with_reducible apply ay.cons);rfl)));exact hG;exact c2;exact .cons _ _ _ _ (.cons _ _ _ _ (.cons _ _ _ _ (.cons _ _ _ _ (.cons _ _ _ _ (.nil _)))));intro u3 a3;refine aT (objs':=(s3,b3,_)::(q.1.1,q.1.2,_)::(q.2.1.1,q.2.1.2,_)::(q.2.2.1.1,q.2.2.1.2,_)::(q.2.2.2.1,q.2.2.2.2,_)::R) rfl ?_))
   refine ag (i+1,u3) ⟨by dsimp only;omega,by dsimp only;rw[hsn,<- Zh];exact hu.trans a3⟩ (by dsimp only;omega) (.of _ nw_ od_ (.refl _))
  ·obtain rfl:i=m.ready.length:=by omega
   rw[Zc (Zf _)] at hu
   have c2:=(rcH (s:=s3) (b:=b3) (f:=f) (lo:=lo) (q:=q) hst hN hsm u.un).val m.value hN.val (fun x hx=>.root _ (Zj _ (Zj _ hx))) u hu.fits (Zf _)
   repeat' (first|refine W_ ?_|((with_reducible apply aB);rfl;kernel_rfl;(repeat (first|exact ay.nil|((with_reducible apply ay.cons);rfl)));exact hG;exact c2;exact .cons _ _ _ _ (.cons _ _ _ _ (.cons _ _ _ _ (.cons _ _ _ _ (.cons _ _ _ _ (.nil _)))));intro u3 a3;refine aT (objs':=(s3,b3,_)::(q.1.1,q.1.2,_)::(q.2.1.1,q.2.1.2,_)::(q.2.2.1.1,q.2.2.1.2,_)::(q.2.2.2.1,q.2.2.2.2,_)::R) rfl ?_))
   have hC:gR m (ku m) (ig m) u3:=by
     have:=hu.trans a3
     rw[Zh,ht0] at this
     exact this
   have hmk:u3=ar m:=hC.full.marks
   have hfl:=hC.full
   clear hu a3 c2 hC
   subst hmk
   exact aD x_ rfl ((s3,b3),q) hfl rfl (.app _ R) (.refl _) (.tmp _ _ rfl) rfl
 ·unfold ah.tw
  repeat' refine W_ ?_
  obtain⟨u1,hu1⟩:∃u1:Mk4,u1=t0:=⟨_,rfl⟩
  have hA:gR m (if m.status=0 then [Nd.prc m.now.toNat] else []) t0 u1:=by rw[if_neg h0,hu1];exact gR.refl hf0 fun x hx=>by simp at hx
  rw[<- hu1]
  have hB0:gR m ((if m.status=0 then [Nd.prc m.now.toNat] else [])++(m.ready.take 0).map (fun p=>Nd.prc p.toNat)) t0 u1:=by simpa using hA
  apply aj (X:=Nat×Mk4) [0,3,48,49,1000000] (fun y=>[(50,.int .i64 (y.1:Int))])
    (fun y=>(s3,b3,.box [.cp f (m.tw lo),.ms q.1.1 q.1.2 0 y.2.o.length,.ms q.2.1.1 q.2.1.2 0 y.2.b.length,.ms q.2.2.1.1 q.2.2.1.2 0 y.2.c.length,.ms q.2.2.2.1 q.2.2.2.2 0 y.2.p.length])::(q.1.1,q.1.2,.row 1 (bR y.2.o))::(q.2.1.1,q.2.1.2,.row 1 (bR y.2.b))::(q.2.2.1.1,q.2.2.1.2,.row 1 (bR y.2.c))::(q.2.2.2.1,q.2.2.2.2,.row 1 (bR y.2.p))::R)
    (fun y=>y.1<=m.ready.length/\gR m ((if m.status=0 then [Nd.prc m.now.toNat] else [])++(m.ready.take y.1).map (fun p=>Nd.prc p.toNat)) t0 y.2) (fun y=>m.ready.length - y.1) (0,u1) ⟨Zd _,hB0⟩
  exact kp_;exact nw_
  ·exact .refl _
  rintro ⟨i,u⟩ ⟨hi,hu⟩
  dsimp only at hi hu |-
  by_cases hlt:i<m.ready.length
  ·have hgi:(aL m.ready)[i]?=some [.int .i64 m.ready[i]]:=aK hlt
   have hrd:=hN.rdy _ (Zb hlt)
   have hro:Nd.prc m.ready[i].toNat∈ku m:=Zj _ (Zk _ (List.mem_map.2 ⟨_,Zb hlt,rfl⟩))
   have hsn:(m.ready.take (i+1)).map (fun p=>Nd.prc p.toNat)=(m.ready.take i).map (fun p=>Nd.prc p.toNat)++[.prc m.ready[i].toNat]:=by rw[<- Z9 hlt,Z1];rfl
   generalize m.ready[i]=k at hgi hrd hro hsn
   obtain⟨j,rfl⟩:=Z5 hrd.1
   have c2:=(rcH (s:=s3) (b:=b3) (f:=f) (lo:=lo) (q:=q) hst hN hsm u.un).prc j (by omega) (.root _ hro) u hu.fits (Zf _)
   repeat' (first|refine W_ ?_|((with_reducible apply aB);rfl;kernel_rfl;(repeat (first|exact ay.nil|((with_reducible apply ay.cons);rfl)));exact hG;exact c2;exact .cons _ _ _ _ (.cons _ _ _ _ (.cons _ _ _ _ (.cons _ _ _ _ (.cons _ _ _ _ (.nil _)))));intro u3 a3;refine aT (objs':=(s3,b3,_)::(q.1.1,q.1.2,_)::(q.2.1.1,q.2.1.2,_)::(q.2.2.1.1,q.2.2.1.2,_)::(q.2.2.2.1,q.2.2.2.2,_)::R) rfl ?_))
   refine ag (i+1,u3) ⟨by dsimp only;omega,by dsimp only;rw[hsn,<- Zh];exact hu.trans a3⟩ (by dsimp only;omega) (.of _ nw_ od_ (.refl _))
  ·obtain rfl:i=m.ready.length:=by omega
   rw[Zc (Zf _)] at hu
   have c2:=(rcH (s:=s3) (b:=b3) (f:=f) (lo:=lo) (q:=q) hst hN hsm u.un).val m.value hN.val (fun x hx=>.root _ (Zj _ (Zj _ hx))) u hu.fits (Zf _)
   repeat' (first|refine W_ ?_|((with_reducible apply aB);rfl;kernel_rfl;(repeat (first|exact ay.nil|((with_reducible apply ay.cons);rfl)));exact hG;exact c2;exact .cons _ _ _ _ (.cons _ _ _ _ (.cons _ _ _ _ (.cons _ _ _ _ (.cons _ _ _ _ (.nil _)))));intro u3 a3;refine aT (objs':=(s3,b3,_)::(q.1.1,q.1.2,_)::(q.2.1.1,q.2.1.2,_)::(q.2.2.1.1,q.2.2.1.2,_)::(q.2.2.2.1,q.2.2.2.2,_)::R) rfl ?_))
   have hC:gR m (ku m) (ig m) u3:=by
     have:=hu.trans a3
     rw[Zh,ht0] at this
     exact this
   have hmk:u3=ar m:=hC.full.marks
   have hfl:=hC.full
   clear hu a3 c2 hC
   subst hmk
   exact aD x_ rfl ((s3,b3),q) hfl rfl (.app _ R) (.refl _) (.tmp _ _ rfl) rfl
end
def aaV (K:List Bool) (i:Nat):Int:=if K[i]?=some true then (rN (K.take i):Int) else -1
def vx (K:List Bool) (i:Nat):List Int:=(List.range i).map (aaV K)
def plc (K:List Bool):List Int:=vx K K.length
theorem lA (K:List Bool) (i:Nat):(vx K i).length=i:=by simp[vx]
theorem ux (K:List Bool) (i:Nat):vx K (i+1)=vx K i++[aaV K i]:=by simp[vx,List.range_succ]
theorem oB (K:List Bool):(plc K).length=K.length:=lA _ _
theorem ut {K:List Bool} {i:Nat} {x:Bool} (h:K[i]?=some x):rN (K.take (i+1))=rN (K.take i)+(if x=true then 1 else 0):=by
 obtain⟨hi,rfl⟩:=List.getElem?_eq_some_iff.1 h
 rw[Z6,h]
 exact acA _ _
def mvI (c:List Int) (k:Int):Int:=if k<0 then k else gd c k
def mvN (o b:List Int) (k n:Int):Int:=if k=6 then gd o n else if k=7 then gd b n else n
def mvV (o b:List Int) (v:ab):ab:=⟨v.kind,mvN o b v.kind v.number,v.text⟩
def mvM (c:List Int) (o:az):List Int:=match o.numbers with
 | [x,y,z]=>if o.kind=1 then [mvI c x,mvI c y,z] else [x,y,z]
 | l=>l
def mvO (o b c:List Int) (x:az):az:=⟨x.kind,x.class_,x.fields.map (mvV o b),mvM c x⟩
def mvB (o b c:List Int) (x:ap):ap:=⟨x.code,mvI c x.outer,mvI c x.home,mvV o b x.self⟩
def mvC (o b c:List Int) (x:aq):aq:=⟨x.mark,x.code,x.pc,mvI c x.sender,mvI c x.outer,mvI c x.home,mvV o b x.self,x.slots.map (mvV o b),x.stack.map (mvV o b),x.values.map (mvV o b),if x.mark=3\/x.mark=5 then mvI c x.other else x.other,x.retry⟩
def mvP (c:List Int) (K:List Bool) (i:Nat) (p:ao):ao:=⟨if K[i]?=some true then mvI c p.at_ else -1,p.main⟩
def pN {α:Type} (K:List Bool) (l:List α) (i:Nat):List α:=(List.range i).filterMap fun j=>if K[j]?=some true then l[j]? else none
theorem uT {α:Type} {K:List Bool} {l:List α} {i:Nat} {x:α} (h:l[i]?=some x):pN K l (i+1)=if K[i]?=some true then pN K l i++[x] else pN K l i:=by
 unfold pN
 rw[List.range_succ,List.filterMap_append]
 split
 ·rename_i hk;simp[hk,h]
 ·rename_i hk;simp[hk]
theorem yI {α:Type} (K:List Bool) (l:List α) (i:Nat):(pN K l i).length<=i:=by
 unfold pN
 exact ZN (List.length_filterMap_le _ _) (by simp)
theorem aeo {α:Type} {K:List Bool} {l:List α} {i:Nat} {x:α} (h:x∈pN K l i):x∈l:=by
 unfold pN at h
 obtain⟨j,_,hj⟩:=List.mem_filterMap.1 h
 split at hj
 ·exact Zq hj
 ·cases hj
def aaS (c:List Int) (K:List Bool) (l:List ao) (i:Nat):List ao:=(l.take i).mapIdx (mvP c K)++l.drop i
theorem ze (c:List Int) (K:List Bool) (l:List ao) (i:Nat):(aaS c K l i).length=l.length:=by
 unfold aaS
 rw[Zs,List.length_mapIdx,<- Zs,YT]
theorem ab6 (c:List Int) (K:List Bool) (l:List ao):aaS c K l 0=l:=by simp[aaS]
theorem zj (c:List Int) (K:List Bool) {l:List ao} {i:Nat} (h:i<l.length):(aaS c K l i)[i]?=some l[i]:=by
 unfold aaS
 rw[Zr (by simp;omega)]
 simp[Xh (Nat.le_of_lt h),Yh,h]
theorem zb (c:List Int) (K:List Bool) {l:List ao} {i:Nat} (h:i<l.length):(aaS c K l i).set i (mvP c K i l[i])=aaS c K l (i+1):=by
 unfold aaS
 have e:((l.take i).mapIdx (mvP c K)).length=i:=by simp;omega
 rw[YB _ _ (by omega),e,Yy,ZH h,YS,Z6,Za h,Option.toList_some,List.mapIdx_append,Zh]
 simp[Xh (Nat.le_of_lt h)]
noncomputable def kpO (m:ah):List Int:=plc (ar m).o
noncomputable def kpB (m:ah):List Int:=plc (ar m).b
noncomputable def kpC (m:ah):List Int:=plc (ar m).c
noncomputable def adF (m:ah):ah:=⟨m.base,⟨m.store.classes,(pN (ar m).o m.store.objects m.store.objects.length).map (mvO (kpO m) (kpB m) (kpC m)),m.store.output,m.store.ticks,m.store.budget,m.store.made⟩,(pN (ar m).b m.blocks m.blocks.length).map (mvB (kpO m) (kpB m) (kpC m)),(pN (ar m).c m.contexts m.contexts.length).map (mvC (kpO m) (kpB m) (kpC m)),aaS (kpC m) (ar m).p m.processes m.processes.length,m.ready,m.now,m.status,mvV (kpO m) (kpB m) m.value,m.fault⟩
noncomputable def eJ (m:ah):Bool:=eD m
noncomputable def bw (m:ah):ah:=if eD m=true then adF m else zIm
theorem jG {n:Nat} {l:List ab} (o b:List Int) (h:∀y∈l,ab.small n y):∀y∈l.map (mvV o b),ab.small n y:=fun y hy=>by
 obtain⟨v,hv,rfl⟩:=List.mem_map.1 hy
 exact h v hv
theorem md {α:Type} {K:List Bool} {l:List α} {f:α->α} {p:α->Prop} {n:Nat} (hn:l.length<=n) (hp:∀y∈l,p y) (hf:∀y,p y->p (f y)):((pN K l l.length).map f).length<=n/\∀y∈(pN K l l.length).map f,p y :=
 ⟨by rw[Ze];exact ZN (yI _ _ _) hn,fun y hy=>by
   obtain⟨x,hx,rfl⟩:=List.mem_map.1 hy
   exact hf x (hp x (aeo hx))⟩
theorem xm (c:List Int) (o:az):(mvM c o).length=o.numbers.length:=by
 unfold mvM
 split
 ·rename_i h
  rw[h]
  split <;> rfl
 ·rfl
theorem zH {m:ah} (hb:m.small 1048576):(adF m).small 1048576:=by
 refine⟨hb.1,⟨hb.2.1.1,md hb.2.1.2.1.1 hb.2.1.2.1.2 fun y h=>?_,hb.2.1.2.2⟩,md hb.2.2.1.1 hb.2.2.1.2 fun y h=>h,md hb.2.2.2.1.1 hb.2.2.2.1.2 fun y h=>?_,⟨by show (aaS _ _ _ _).length<=_;rw[ze];exact hb.2.2.2.2.1.1,fun y _=>trivial⟩,hb.2.2.2.2.2⟩
 ·exact⟨⟨by show (List.map _ _).length<=_;rw[Ze];exact h.1.1,jG _ _ h.1.2⟩,by show (mvM _ _).length<=_;rw[xm];exact h.2⟩
 ·exact⟨h.1,⟨by show (List.map _ _).length<=_;rw[Ze];exact h.2.1.1,jG _ _ h.2.1.2⟩,⟨by show (List.map _ _).length<=_;rw[Ze];exact h.2.2.1.1,jG _ _ h.2.2.1.2⟩,by show (List.map _ _).length<=_;rw[Ze];exact h.2.2.2.1,jG _ _ h.2.2.2.2⟩
theorem kf {m:ah} (hb:m.small 1048576):(bw m).small 1048576:=by
 unfold bw
 split
 ·exact zH hb
 ·exact acD _
theorem xE {c:List Int} {n:Int} (h0:0<=n) (h1:n<c.length):∃q:Nat,n=q/\q<c.length:=⟨n.toNat,by omega,by omega⟩
section
variable {G:World->Prop}
def pkR (K:List Bool) (i:Nat):List Int:=vx K i++List.replicate (K.length - i) 0
theorem ae4 {K:List Bool} {i:Nat} (h:i<=K.length):(pkR K i).length=K.length:=by
 unfold pkR
 rw[Zs,lA,Y9];omega
theorem afT {K:List Bool} {i:Nat} (h:i<K.length):(pkR K i).set i (aaV K i)=pkR K (i+1):=by
 unfold pkR
 rw[YB _ _ (by rw[lA];omega),lA,Yy,show K.length - i=(K.length - (i+1))+1 by omega,ZY,YS,ux,Zh]
 rfl
theorem adX (K:List Bool):pkR K K.length=plc K:=by simp[pkR,plc]
theorem ad9 (n:Nat):List.replicate n [TV.int .i64 0]=aL (List.replicate n 0):=by simp[aL]
theorem jz (_hst:aC G) (lo:Nat) (K:List Bool) (hn:K.length<=1048576):Ct Tryz.prog G 166 [.sl lo 1 (bR K)] (fun L=>.sl L 1 (aL (plc K))):=by
 refine au Tryz.func166 rfl Tryz.ntmps166 rfl rfl fun w0 _ hG=>?_
 have hlb:=ff K
 repeat' (first|refine W_ ?_|(refine gG ?_;intro ss bb))
 apply aj (X:=Nat) [0,3] (fun i=>[(5,.int .i64 (i:Int)),(4,.int .i64 (rN (K.take i):Int))]) (fun i=>[(ss,bb,.row 1 (aL (pkR K i)))]) (fun i=>i<=K.length) (fun i=>K.length - i) 0 (Zd _)
 exact kp_;exact nw_
 ·unfold pkR vx
  simp only[List.range_zero,Yk,Zz,XC]
  rw[<- ad9]
  exact .refl _
 intro i hi
 try dsimp only
 by_cases hlt:i<K.length
 ·have hrow:=fe hlt
  have hpl:=ae4 hi
  have hlr:(aL (pkR K i)).length=K.length:=by rw[ae,hpl]
  have hr0:=jW (l:=pkR K i) (k:=i) (by omega)
  have hs1:=fun x:Int=>lh (pkR K i) i x
  have hr1:∀x:Int,(aL ((pkR K i).set i x))[i]?=some [.int .i64 x]:=fun x=>by rw[<- hs1,ZP (by omega)]
  have hs2:=fun x y:Int=>lh ((pkR K i).set i x) i y
  have hst2:=afT hlt
  have hcn:=ut (Za hlt)
  have hle:=aaU (K.take i)
  rw[Zu] at hle
  generalize (pkR K i)[i]'(by omega)=z0 at hr0
  by_cases hk:K[i]=true
  ·have hp:aaV K i=(rN (K.take i):Int):=by unfold aaV;rw[Za hlt,hk,if_pos rfl]
   rw[hk] at hrow hcn
   rw[hp] at hst2
   simp only[if_true] at hcn
   have hfin:((aL (pkR K i)).set i [TV.int .i64 (-1)]).set i [TV.int .i64 (rN (K.take i):Int)]=aL (pkR K (i+1)):=by rw[YG,hs1,hst2]
   have hr2:((aL (pkR K i)).set i [TV.int .i64 (-1)])[i]?=some [.int .i64 (-1)]:=ZP (by omega)
   generalize aL (pkR K i)=rows at hlr hr0 hfin hr2 |-
   generalize rN (K.take i)=q at hcn hle hfin |-
   repeat' (first|refine W_ ?_|refine bm ?_)
   refine ag (i+1) (by omega) (by omega) (.of _ (cq.envCons rfl (cq.envCons (dl rfl (by rw[hcn])) cq.envNil)) od_ ?_)
   rw[<- hfin]
   exact .refl _
  ·have hk:=Bool.eq_false_iff.2 hk
   have hp:aaV K i=-1:=by unfold aaV;rw[Za hlt,hk];rfl
   rw[hk] at hrow hcn
   rw[hp] at hst2
   have hcn:rN (K.take (i+1))=rN (K.take i):=by simpa using hcn
   have hfin:(aL (pkR K i)).set i [TV.int .i64 (-1)]=aL (pkR K (i+1)):=by rw[hs1,hst2]
   generalize aL (pkR K i)=rows at hlr hr0 hfin |-
   repeat' (first|refine W_ ?_|refine bm ?_)
   refine ag (i+1) (by omega) (by omega) (.of _ (cq.envCons rfl (cq.envCons (dl rfl (by rw[hcn])) cq.envNil)) od_ ?_)
   rw[<- hfin]
   exact .refl _
 ·obtain rfl:i=K.length:=by omega
  rw[adX]
  have hpl:=oB K
  rw[<- hpl]
  repeat' refine W_ ?_
  refine aM x_ rfl (.tmp _ _ rfl) (fun _=>?_)
  exact yT (l:=plc K) (fun x=>.cons (.flat rfl) .nil) Zi
theorem xJ (_hst:aC G) (lo:Nat) (k:Int) (c:List Int) (hk:k<c.length):Ct Tryz.prog G 168 [.int .i64 k,.sl lo 1 (aL c)] (fun _=>.int .i64 (mvI c k)):=by
 refine au Tryz.func168 rfl Tryz.ntmps168 rfl rfl fun w0 _ hG=>?_
 have hlc:=ae c
 unfold mvI
 by_cases h0:k<0
 ·rw[if_pos h0]
  repeat' refine W_ ?_
  exact r1_
 ·rw[if_neg h0]
  obtain⟨q,rfl,hq⟩:=xE (c:=c) (by omega) hk
  have hrow:=dz hq
  repeat' refine W_ ?_
  exact r1_
theorem qW (_hst:aC G) (l1 l2:Nat) (o b:List Int) (k n:Int) (t:ByteArray) (h6:k=6->0<=n/\n<o.length) (h7:k=7->0<=n/\n<b.length):Ct Tryz.prog G 169 [.agg [.int .i64 k,.int .i64 n,.str t],.sl l1 1 (aL o),.sl l2 1 (aL b)] (fun _=>.agg [.int .i64 k,.int .i64 (mvN o b k n),.str t]):=by
 refine au Tryz.func169 rfl Tryz.ntmps169 rfl rfl fun w0 _ hG=>?_
 have hlo:=ae o
 have hlb:=ae b
 unfold mvN
 by_cases k6:k=6
 ·rw[if_pos k6]
  have h7':¬ k=7:=by omega
  obtain⟨q,rfl,hq⟩:=xE (h6 k6).1 (h6 k6).2
  have hrow:=dz hq
  repeat' (first|refine W_ ?_|((with_reducible apply j4);rfl;rfl;rfl;intro ss bb)|(refine am ?_;intro ss bb)|refine ac ?_)
  refine aM x_ rfl (.cell _ _ _ _ _ rfl mm_ (by kernel_rfl) (by kernel_rfl) (by kernel_rfl)) (fun _=>?_)
  exact Fin.aggFlat (by simp[TV.flat]) rfl
 ·rw[if_neg k6]
  by_cases k7:k=7
  ·rw[if_pos k7]
   obtain⟨q,rfl,hq⟩:=xE (h7 k7).1 (h7 k7).2
   have hrow:=dz hq
   repeat' (first|refine W_ ?_|((with_reducible apply j4);rfl;rfl;rfl;intro ss bb)|(refine am ?_;intro ss bb)|refine ac ?_)
   refine aM x_ rfl (.cell _ _ _ _ _ rfl mm_ (by kernel_rfl) (by kernel_rfl) (by kernel_rfl)) (fun _=>?_)
   exact Fin.aggFlat (by simp[TV.flat]) rfl
  ·rw[if_neg k7]
   repeat' (first|refine W_ ?_|((with_reducible apply j4);rfl;rfl;rfl;intro ss bb)|(refine am ?_;intro ss bb)|refine ac ?_)
   refine aM x_ rfl (.cell _ _ _ _ _ rfl mm_ (by kernel_rfl) (by kernel_rfl) (by kernel_rfl)) (fun _=>?_)
   exact Fin.aggFlat (by simp[TV.flat]) rfl
theorem aew (lo:Nat) (o b:List Int) (l:List ab) (q:Nat) (h:q<=l.length):(((l.take q).map (mvV o b)).map (ab.tw lo)).length=q:=by simp;omega
theorem tI (hst:aC G) (lo l1 l2:Nat) (o b:List Int) (l:List ab) (hl:l.length<=1048576) (hv:∀v∈l,(v.kind=6->0<=v.number/\v.number<o.length)/\(v.kind=7->0<=v.number/\v.number<b.length)):CtM Tryz.prog G 167 [.sl lo 3 (l.map (ab.tw lo)),.sl l1 1 (aL o),.sl l2 1 (aL b)] [] (fun _:Nat×Nat=>True) (fun y=>[(y.1,y.2,.row 3 ((l.map (mvV o b)).map (ab.tw 0)))]) (fun y=>.ms y.1 y.2 0 l.length):=by
 refine aA Tryz.func167 rfl Tryz.ntmps167 rfl rfl rfl fun w0 R gs objsR hG hR=>?_
 obtain rfl:=hR.inv0
 clear hR
 have hll:=ab.len lo l
 repeat' (first|refine W_ ?_|(refine jZ ?_;intro ss bb))
 generalize ss=so;generalize bb=bo
 apply aj (X:=Nat×Nat) [0,1,2,1000000] (fun y=>[(8,.int .i64 (y.1:Int)),(7,.ms so y.2 0 y.1)]) (fun y=>(so,y.2,.row 3 (((l.take y.1).map (mvV o b)).map (ab.tw 0)))::R) (fun y=>y.1<=l.length) (fun y=>l.length - y.1) (0,bo) (Zd _)
 exact kp_;exact nw_
 ·exact .refl _
 rintro ⟨q,b2⟩ hq
 dsimp only at hq |-
 by_cases hlt:q<l.length
 ·have hgi:(l.map (ab.tw lo))[q]?=some (l[q].tw lo):=aK hlt
  have hln:=aew 0 o b l q hq
  have hsn:((l.take q).map (mvV o b)).map (ab.tw 0)++[(mvV o b l[q]).tw 0]=((l.take (q+1)).map (mvV o b)).map (ab.tw 0):=by rw[<- Z9 hlt,Z1,Z1];rfl
  have hvq:=hv _ (Zb hlt)
  generalize l[q]=v at hgi hsn hvq
  rw[show (mvV o b v).tw 0=[.int .i64 v.kind,.int .i64 (mvN o b v.kind v.number),.str v.text] from rfl] at hsn
  rw[show v.tw lo=[.int .i64 v.kind,.int .i64 v.number,.str v.text] from rfl] at hgi
  have hct:=qW hst l1 l2 o b v.kind v.number v.text hvq.1 hvq.2
  generalize ((l.take q).map (mvV o b)).map (ab.tw 0)=rows at hln hsn |-
  obtain⟨rows2,hr2⟩:∃r,r=((l.take (q+1)).map (mvV o b)).map (ab.tw 0):=⟨_,rfl⟩
  rw[<- hr2] at hsn
  repeat' (first|refine W_ ?_|refine ad hG hst (hct) ?_|refine cK ?_|((with_reducible apply bT);rfl;rfl;rfl;kernel_rfl;(repeat (first|with_reducible exact mh|with_reducible refine mt ?_));exact hln;exact(rfl:_=1);omega;exact hsn;(intro bq;(repeat (first|with_reducible exact Upd.head _|with_reducible apply Upd.tail)));intro bb))
  exact ag (q+1,bb) (by dsimp only;omega) (by dsimp only;omega) (.of _ nw_ od_ (bK (by rw[hr2])))
 ·obtain rfl:q=l.length:=by omega
  rw[Zc (Zf _)]
  repeat' refine W_ ?_
  exact aD x_ rfl (so,b2) trivial rfl (.cons _ _ _ _ (.nil R)) pk_ (.tmp _ _ rfl) rfl
theorem sY (_hst:aC G) (lo:Nat) (K:List Bool) (hn:K.length<=1048576):Ct Tryz.prog G 83 [.sl lo 1 (bR K)] (fun L=>.sl L 1 (aL (plc K))):=by
 refine au Tryz.func83 rfl Tryz.ntmps83 rfl rfl fun w0 _ hG=>?_
 have hlb:=ff K
 repeat' (first|refine W_ ?_|(refine jZ ?_;intro ss bb))
 generalize ss=so;generalize bb=bo
 apply aj (X:=Nat×Nat) [8,9] (fun i=>[(10,.int .i64 (i.1:Int)),(4,.int .i64 (rN (K.take i.1):Int)),(3,.ms so i.2 0 i.1)]) (fun i=>[(so,i.2,.row 1 (aL (vx K i.1)))]) (fun i=>i.1<=K.length) (fun i=>K.length - i.1) (0,bo) (Zd _)
 exact kp_;exact nw_
 ·exact .refl _
 rintro ⟨i,b2⟩ hi
 dsimp only at hi |-
 by_cases hlt:i<K.length
 ·have hrow:=fe hlt
  have hln:(aL (vx K i)).length=i:=by rw[ae,lA]
  have hsn:=fun n=>acM (vx K i) n
  have hcn:=ut (Za hlt)
  have hle:=aaU (K.take i)
  rw[Zu] at hle
  have hps:=ux K i
  by_cases hk:K[i]=true
  ·have hp:aaV K i=(rN (K.take i):Int):=by unfold aaV;rw[Za hlt,hk,if_pos rfl]
   rw[hk] at hrow hcn
   rw[hp] at hps
   simp only[if_true] at hcn
   have hfin:aL (vx K i)++[[.int .i64 (rN (K.take i):Int)]]=aL (vx K (i+1)):=by rw[hsn,hps]
   generalize aL (vx K i)=rows at hln hfin |-
   generalize rN (K.take i)=q at hcn hle hfin |-
   repeat' (first|refine W_ ?_|refine cK ?_|((with_reducible apply bT);rfl;rfl;rfl;kernel_rfl;(repeat (first|with_reducible exact mh|with_reducible refine mt ?_));exact hln;exact(rfl:_=1);omega;exact hfin;(intro bq;(repeat (first|with_reducible exact Upd.head _|with_reducible apply Upd.tail)));intro bb))
   exact ag (i+1,bb) (by dsimp only;omega) (by dsimp only;omega) (.of _ (cq.envCons rfl (cq.envCons (dl rfl (by rw[hcn])) (cq.envCons rfl cq.envNil))) od_ pk_)
  ·have hk:=Bool.eq_false_iff.2 hk
   have hp:aaV K i=-1:=by unfold aaV;rw[Za hlt,hk];rfl
   rw[hk] at hrow hcn
   rw[hp] at hps
   have hcn:rN (K.take (i+1))=rN (K.take i):=by simpa using hcn
   have hfin:aL (vx K i)++[[.int .i64 (-1)]]=aL (vx K (i+1)):=by rw[hsn,hps]
   generalize aL (vx K i)=rows at hln hfin |-
   repeat' (first|refine W_ ?_|refine cK ?_|((with_reducible apply bT);rfl;rfl;rfl;kernel_rfl;(repeat (first|with_reducible exact mh|with_reducible refine mt ?_));exact hln;exact(rfl:_=1);omega;exact hfin;(intro bq;(repeat (first|with_reducible exact Upd.head _|with_reducible apply Upd.tail)));intro bb))
   exact ag (i+1,bb) (by dsimp only;omega) (by dsimp only;omega) (.of _ (cq.envCons rfl (cq.envCons (dl rfl (by rw[hcn])) (cq.envCons rfl cq.envNil))) od_ pk_)
 ·obtain rfl:i=K.length:=by omega
  have hpl:=oB K
  show AW _ _ _ _ _ _ [(so,b2,.row 1 (aL (plc K)))]
  rw[<- hpl]
  repeat' refine W_ ?_
  refine aM x_ rfl (.tmp _ _ rfl) (fun _=>?_)
  exact yT (l:=plc K) (fun x=>.cons (.flat rfl) .nil) Zi
end
section
variable {G:World->Prop}
theorem agX (_hst:aC G) (l1 l2 l3:Nat) (o b c:List Int) (k:Int) (hk:k<c.length):Ct Tryz.prog G 86 [.agg [.sl l1 1 (aL o),.sl l2 1 (aL b),.sl l3 1 (aL c)],.int .i64 k] (fun _=>.int .i64 (mvI c k)):=by
 refine au Tryz.func86 rfl Tryz.ntmps86 rfl rfl fun w0 _ hG=>?_
 have hlc:=ae c
 unfold mvI
 by_cases h0:k<0
 ·rw[if_pos h0]
  repeat' (first|refine W_ ?_|refine aN ?_)
  exact r1_
 ·rw[if_neg h0]
  obtain⟨q,rfl,hq⟩:=xE (c:=c) (by omega) hk
  have hrow:=dz hq
  repeat' (first|refine W_ ?_|refine aN ?_)
  exact r1_
theorem aeC (_hst:aC G) (l1 l2 l3:Nat) (o b c:List Int) (k n:Int) (t:ByteArray) (h6:k=6->0<=n/\n<o.length) (h7:k=7->0<=n/\n<b.length):Ct Tryz.prog G 87 [.agg [.sl l1 1 (aL o),.sl l2 1 (aL b),.sl l3 1 (aL c)],.agg [.int .i64 k,.int .i64 n,.str t]] (fun _=>.agg [.int .i64 k,.int .i64 (mvN o b k n),.str t]):=by
 refine au Tryz.func87 rfl Tryz.ntmps87 rfl rfl fun w0 _ hG=>?_
 have hlo:=ae o
 have hlb:=ae b
 unfold mvN
 by_cases k6:k=6
 ·rw[if_pos k6]
  obtain⟨q,rfl,hq⟩:=xE (h6 k6).1 (h6 k6).2
  have hrow:=dz hq
  repeat' (first|refine W_ ?_|((with_reducible apply j4);rfl;rfl;rfl;intro ss bb)|(refine am ?_;intro ss bb)|refine ac ?_)
  refine aM x_ rfl (.cell _ _ _ _ _ rfl mm_ (by kernel_rfl) (by kernel_rfl) (by kernel_rfl)) (fun _=>?_)
  exact Fin.aggFlat (by simp[TV.flat]) rfl
 ·rw[if_neg k6]
  by_cases k7:k=7
  ·rw[if_pos k7]
   obtain⟨q,rfl,hq⟩:=xE (h7 k7).1 (h7 k7).2
   have hrow:=dz hq
   repeat' (first|refine W_ ?_|((with_reducible apply j4);rfl;rfl;rfl;intro ss bb)|(refine am ?_;intro ss bb)|refine ac ?_)
   refine aM x_ rfl (.cell _ _ _ _ _ rfl mm_ (by kernel_rfl) (by kernel_rfl) (by kernel_rfl)) (fun _=>?_)
   exact Fin.aggFlat (by simp[TV.flat]) rfl
  ·rw[if_neg k7]
   repeat' (first|refine W_ ?_|((with_reducible apply j4);rfl;rfl;rfl;intro ss bb)|(refine am ?_;intro ss bb)|refine ac ?_)
   refine aM x_ rfl (.cell _ _ _ _ _ rfl mm_ (by kernel_rfl) (by kernel_rfl) (by kernel_rfl)) (fun _=>?_)
   exact Fin.aggFlat (by simp[TV.flat]) rfl
theorem ahz (hst:aC G) (lo l1 l2 l3:Nat) (o b c:List Int) (l:List ab) (hl:l.length<=1048576) (hv:∀v∈l,(v.kind=6->0<=v.number/\v.number<o.length)/\(v.kind=7->0<=v.number/\v.number<b.length)):CtM Tryz.prog G 85 [.agg [.sl l1 1 (aL o),.sl l2 1 (aL b),.sl l3 1 (aL c)],.sl lo 3 (l.map (ab.tw lo))] [] (fun _:Nat×Nat=>True) (fun y=>[(y.1,y.2,.row 3 ((l.map (mvV o b)).map (ab.tw 0)))]) (fun y=>.ms y.1 y.2 0 l.length):=by
 refine aA Tryz.func85 rfl Tryz.ntmps85 rfl rfl rfl fun w0 R gs objsR hG hR=>?_
 obtain rfl:=hR.inv0
 clear hR
 have hll:=ab.len lo l
 repeat' (first|refine W_ ?_|refine aN ?_|(refine jZ ?_;intro ss bb))
 generalize ss=so;generalize bb=bo
 apply aj (X:=Nat×Nat) [2,9,10,1000000] (fun y=>[(11,.int .i64 (y.1:Int)),(5,.ms so y.2 0 y.1)]) (fun y=>(so,y.2,.row 3 (((l.take y.1).map (mvV o b)).map (ab.tw 0)))::R) (fun y=>y.1<=l.length) (fun y=>l.length - y.1) (0,bo) (Zd _)
 exact kp_;exact nw_
 ·exact .refl _
 rintro ⟨q,b2⟩ hq
 dsimp only at hq |-
 by_cases hlt:q<l.length
 ·have hgi:(l.map (ab.tw lo))[q]?=some (l[q].tw lo):=aK hlt
  have hln:=aew 0 o b l q hq
  have hsn:((l.take q).map (mvV o b)).map (ab.tw 0)++[(mvV o b l[q]).tw 0]=((l.take (q+1)).map (mvV o b)).map (ab.tw 0):=by rw[<- Z9 hlt,Z1,Z1];rfl
  have hvq:=hv _ (Zb hlt)
  generalize l[q]=v at hgi hsn hvq
  rw[show (mvV o b v).tw 0=[.int .i64 v.kind,.int .i64 (mvN o b v.kind v.number),.str v.text] from rfl] at hsn
  rw[show v.tw lo=[.int .i64 v.kind,.int .i64 v.number,.str v.text] from rfl] at hgi
  have hct:=aeC hst l1 l2 l3 o b c v.kind v.number v.text hvq.1 hvq.2
  generalize ((l.take q).map (mvV o b)).map (ab.tw 0)=rows at hln hsn |-
  obtain⟨rows2,hr2⟩:∃r,r=((l.take (q+1)).map (mvV o b)).map (ab.tw 0):=⟨_,rfl⟩
  rw[<- hr2] at hsn
  repeat' (first|refine W_ ?_|(refine am ?_;intro ss bb)|refine ac ?_|refine ad hG hst (hct) ?_|refine cK ?_|((with_reducible apply bT);rfl;rfl;rfl;kernel_rfl;(repeat (first|with_reducible exact mh|with_reducible refine mt ?_));exact hln;exact(rfl:_=1);omega;exact hsn;(intro bq;(repeat (first|with_reducible exact Upd.head _|with_reducible apply Upd.tail)));intro bb))
  exact ag (q+1,bb) (by dsimp only;omega) (by dsimp only;omega) (.of _ nw_ od_ (.trans (bK (by rw[hr2])) (.drop (.refl _))))
 ·obtain rfl:q=l.length:=by omega
  rw[Zc (Zf _)]
  repeat' refine W_ ?_
  exact aD x_ rfl (so,b2) trivial rfl (.cons _ _ _ _ (.nil R)) pk_ (.tmp _ _ rfl) rfl
end
noncomputable def mg (m:ah) (i:Nat):List az:=(pN (ar m).o m.store.objects i).map (mvO (kpO m) (kpB m) (kpC m))
noncomputable def qd (m:ah) (i:Nat):List ap:=(pN (ar m).b m.blocks i).map (mvB (kpO m) (kpB m) (kpC m))
noncomputable def lV (m:ah) (i:Nat):List aq:=(pN (ar m).c m.contexts i).map (mvC (kpO m) (kpB m) (kpC m))
noncomputable def nj (m:ah) (i:Nat):List ao:=aaS (kpC m) (ar m).p m.processes i
theorem pJ {α:Type} (K:List Bool) (l:List α):pN K l 0=[]:=by simp[pN]
theorem kZ (m:ah):mg m 0=[]:=by unfold mg;rw[pJ];rfl
theorem ur (m:ah):qd m 0=[]:=by unfold qd;rw[pJ];rfl
theorem lp (m:ah):lV m 0=[]:=by unfold lV;rw[pJ];rfl
theorem uf (m:ah):nj m 0=m.processes:=ab6 _ _ _
theorem nG (m:ah) (i:Nat):(nj m i).length=m.processes.length:=ze _ _ _ _
theorem aaj {α β:Type} {K:List Bool} {l:List α} {f:α->β} {i:Nat} {x:α} (h:l[i]?=some x) (hk:K[i]?=some true):(pN K l (i+1)).map f=(pN K l i).map f++[f x]:=by
 rw[uT h,if_pos hk,Z1];rfl
theorem aal {α β:Type} {K:List Bool} {l:List α} {f:α->β} {i:Nat} {x:α} (h:l[i]?=some x) (hk:K[i]?=some false):(pN K l (i+1)).map f=(pN K l i).map f:=by
 rw[uT h,if_neg (by rw[hk];simp)]
theorem lQ {α β:Type} (K:List Bool) (l:List α) (f:α->β) (i:Nat):((pN K l i).map f).length<=i:=by
 rw[Ze];exact yI _ _ _
theorem rE (m:ah):adF m=⟨m.base,⟨m.store.classes,mg m m.store.objects.length,m.store.output,m.store.ticks,m.store.budget,m.store.made⟩,qd m m.blocks.length,lV m m.contexts.length,nj m m.processes.length,m.ready,m.now,m.status,mvV (kpO m) (kpB m) m.value,m.fault⟩:=rfl
theorem sI {α β:Type} (mk:α->β->List TV) {l:List α} {ps:List β} (h:ps.length=l.length) (x:α) (p:β):nRg mk l ps++[mk x p]=nRg mk (l++[x]) (ps++[p]):=by
 unfold nRg
 rw[Yz h.symm];rfl
theorem sM {α β:Type} (ob:α->β->aJ) {l:List α} {ps:List β} (h:ps.length=l.length) (x:α) (p:β):nOg ob (l++[x]) (ps++[p])=nOg ob l ps++ob x p:=by
 unfold nOg
 rw[Yz h.symm,YO];simp
open Classical in
theorem ahg {m:ah} (h:eD m=true):aeK m:=of_decide_eq_true h
theorem mJ (l:List ab) (n:Nat):∀y:Nat×Nat,True->(∀s b o,(s,b,o)∈[(y.1,y.2,aW.row 3 (l.map (ab.tw 0)))]->cz [(y.1,y.2,aW.row 3 (l.map (ab.tw 0)))] o)/\dL [(y.1,y.2,aW.row 3 (l.map (ab.tw 0)))] (.ms y.1 y.2 0 n):=fun y _ =>
 ⟨fun s b o h=>by
   simp only[Zy,Zt] at h
   obtain⟨_,_,rfl⟩:=h
   exact pA _ _,.ms _ _ _ _ _ _ Zi⟩
theorem qH {m:ah} {v:ab} (h:iP m v) (hF:yY m (ar m)):(v.kind=6->0<=v.number/\v.number<(kpO m).length)/\(v.kind=7->0<=v.number/\v.number<(kpB m).length):=by
 obtain⟨f1,f2,_⟩:=hF.fits
 unfold kpO kpB
 rw[oB,oB,f1,f2]
 refine⟨od h,fun h7=>?_⟩
 unfold iP cD j1 at h
 rw[h7] at h
 simp at h
 omega
theorem abb {m:ah} (hF:yY m (ar m)):(kpC m).length=m.contexts.length:=by
 obtain⟨_,_,f3,_⟩:=hF.fits
 unfold kpC
 rw[oB,f3]
theorem wL {c:List Int} {k:Int} (h0:0<=k) (h1:k<c.length):∃q:Nat,k=q/\q<c.length/\(aL c)[q]?=some [.int .i64 (mvI c k)]:=by
 obtain⟨q,rfl,hq⟩:=xE h0 h1
 refine⟨q,rfl,hq, ?_⟩
 have:=dz hq
 unfold mvI
 rw[if_neg (by omega)]
 exact this
theorem nP {v:ab} {i:Nat}:Nd.prc i∉eg v:=by
 unfold eg
 split
 ·simp
 ·split <;> simp
theorem iy {k:Int} {i:Nat}:Nd.prc i∉fb k:=by
 unfold fb
 split <;> simp
theorem nZ {l:List ab} {i:Nat}:Nd.prc i∉l.flatMap eg:=fun h=>by
 obtain⟨v,_,h⟩:=List.mem_flatMap.1 h
 exact nP h
theorem ads {m:ah} {i:Nat} (h:Rch m (.prc i)):∃p∈np m++m.ready++tH m,p.toNat=i:=by
 cases h with
 | root _ h =>
   unfold ku at h
   rcases List.mem_append.1 h with h|h
   ·split at h
    ·rename_i h0
     simp only[Zy,Nd.prc.injEq] at h
     exact⟨m.now,Zk _ (Zk _ (by unfold np;rw[if_pos h0];exact Zi)),h.symm⟩
    ·cases h
   ·rcases List.mem_append.1 h with h|h
    ·obtain⟨p,hp,he⟩:=List.mem_map.1 h
     exact⟨p,Zk _ (Zj _ hp),by injection he⟩
    ·exact absurd h nP
 | step x _ _ hs =>
   cases x with
   | obj n =>
     unfold iI at hs
     dsimp only at hs
     cases ho:m.store.objects[n]? with
     | none=>rw[ho] at hs;cases hs
     | some o =>
       rw[ho] at hs
       dsimp only at hs
       unfold zG at hs
       rcases List.mem_append.1 hs with h|h
       ·exact absurd h nZ
       rcases List.mem_append.1 h with h|h
       ·split at h
        ·obtain⟨k,_,h⟩:=List.mem_flatMap.1 h
         exact absurd h iy
        ·cases h
       ·split at h
        ·rename_i h3
         obtain⟨p,hp,he⟩:=List.mem_map.1 h
         refine⟨p,Zj _ ?_,by injection he⟩
         unfold tH
         exact List.mem_flatMap.2 ⟨o,Zq ho,by unfold vH;rw[if_pos h3];exact hp⟩
        ·cases h
   | blk n =>
     unfold iI at hs
     dsimp only at hs
     cases ho:m.blocks[n]? with
     | none=>rw[ho] at hs;cases hs
     | some o =>
       rw[ho] at hs
       rcases List.mem_append.1 hs with h|h
       ·exact absurd h iy
       ·exact absurd h nP
   | ctx n =>
     unfold iI at hs
     dsimp only at hs
     cases ho:m.contexts[n]? with
     | none=>rw[ho] at hs;cases hs
     | some o =>
       rw[ho] at hs
       dsimp only at hs
       unfold cxN at hs
       rcases List.mem_append.1 hs with h|h
       ·exact absurd h iy
       rcases List.mem_append.1 h with h|h
       ·exact absurd h iy
       rcases List.mem_append.1 h with h|h
       ·exact absurd h iy
       rcases List.mem_append.1 h with h|h
       ·split at h
        ·exact absurd h iy
        ·cases h
       rcases List.mem_append.1 h with h|h
       ·exact absurd h nP
       rcases List.mem_append.1 h with h|h
       ·exact absurd h nZ
       rcases List.mem_append.1 h with h|h
       ·exact absurd h nZ
       ·exact absurd h nZ
   | prc n =>
     unfold iI at hs
     dsimp only at hs
     cases ho:m.processes[n]? with
     | none=>rw[ho] at hs;cases hs
     | some o =>
       rw[ho] at hs
       exact absurd hs iy
theorem agN {m:ah} (hp:aeK m) (hF:yY m (ar m)) {i:Nat} (h:(ar m).p[i]?=some true) {p:ao} (hi:m.processes[i]?=some p):0<=p.at_/\p.at_<m.contexts.length:=by
 obtain⟨q,hq,rfl⟩:=ads ((hF.iff (.prc i)).1 h)
 obtain⟨c,hc,_⟩:=hp.live.2.2 q hq p hi
 obtain⟨h0,h1,_⟩:=kQ hc
 omega
theorem adu (bx rx rb ro out bo pr rd b3 qo qb qc qp z tz:Nat×Nat×aW) (CB CL OO XX R:aJ):bW (bx::ro::b3::qo::rb::rx::pr::qb::qc::qp::z::tz::(CB++(CL++out::rd::R))) (bx::rx::rb::ro::(CB++(CL++(OO++out::bo::(XX++pr::rd::b3::qo::qb::qc::qp::z::tz::R))))):=.trans (.sub (show List.Sublist (bx::ro::b3::qo::rb::rx::pr::qb::qc::qp::z::tz::(CB++(CL++out::rd::R))) ((OO++bo::(XX++bx::ro::b3::qo::rb::rx::pr::qb::qc::qp::z::tz::(CB++(CL++out::rd::R))))) from by
 have h:=Ye ((OO++bo::XX)) (bx::ro::b3::qo::rb::rx::pr::qb::qc::qp::z::tz::(CB++(CL++out::rd::R)))
 simpa using h)) (.perm (by
 have h:=ce (n:=20) [[bx],[rx],[rb],[ro],CB,CL,OO,[out],[bo],XX,[pr],[rd],[b3],[qo],[qb],[qc],[qp],[z],[tz],R] [6,8,9,0,3,12,13,2,1,10,14,15,16,17,18,4,5,7,11,19] rfl (by decide)
 exact(show ((OO++bo::(XX++bx::ro::b3::qo::rb::rx::pr::qb::qc::qp::z::tz::(CB++(CL++out::rd::R))))).Perm (bx::rx::rb::ro::(CB++(CL++(OO++out::bo::(XX++pr::rd::b3::qo::qb::qc::qp::z::tz::R))))) from by simpa using h)))
theorem adN (x nm fl x9 bx ro b3 qo:Nat×Nat×aW) (T G:aJ):bW (bx::ro::b3::qo::(T++fl::nm::G)) (x::nm::fl::x9::bx::ro::b3::qo::(T++G)):=.trans (.sub (show List.Sublist (bx::ro::b3::qo::(T++fl::nm::G)) (x::x9::bx::ro::b3::qo::(T++fl::nm::G)) from by
 have h:=Ye (x::[x9]) (bx::ro::b3::qo::(T++fl::nm::G))
 simpa using h)) (.perm (by
 have h:=ce (n:=10) [[x],[nm],[fl],[x9],[bx],[ro],[b3],[qo],T,G] [0,3,4,5,6,7,8,2,1,9] rfl (by decide)
 exact(show (x::x9::bx::ro::b3::qo::(T++fl::nm::G)).Perm (x::nm::fl::x9::bx::ro::b3::qo::(T++G)) from by simpa using h)))
theorem acQ (bx ro b3 qo rb rx pr qb qc qp z tz:Nat×Nat×aW) (NO S:aJ):bW (bx::rb::b3::qb::ro::rx::pr::qo::qc::qp::z::tz::(NO++S)) (bx::ro::b3::qo::(NO++rb::rx::pr::qb::qc::qp::z::tz::S)):=(.perm (by
 have h:=ce (n:=14) [[bx],[ro],[b3],[qo],NO,[rb],[rx],[pr],[qb],[qc],[qp],[z],[tz],S] [0,5,2,8,1,6,7,3,9,10,11,12,4,13] rfl (by decide)
 exact(show (bx::rb::b3::qb::ro::rx::pr::qo::qc::qp::z::tz::(NO++S)).Perm (bx::ro::b3::qo::(NO++rb::rx::pr::qb::qc::qp::z::tz::S)) from by simpa using h)))
theorem ab4 (bx rb b3 qb ro rx pr qo qc qp z tz:Nat×Nat×aW) (NO S:aJ):bW (bx::rx::b3::qc::ro::rb::pr::qo::qb::qp::z::tz::(NO++S)) (bx::rb::b3::qb::ro::rx::pr::qo::qc::qp::z::tz::(NO++S)):=(.perm (by
 have h:=ce (n:=14) [[bx],[rb],[b3],[qb],[ro],[rx],[pr],[qo],[qc],[qp],[z],[tz],NO,S] [0,5,2,8,4,1,6,7,3,9,10,11,12,13] rfl (by decide)
 exact(show (bx::rx::b3::qc::ro::rb::pr::qo::qb::qp::z::tz::(NO++S)).Perm (bx::rb::b3::qb::ro::rx::pr::qo::qc::qp::z::tz::(NO++S)) from by simpa using h)))
theorem adi (vl sk sl x osl osk ovl bx rx b3 qc:Nat×Nat×aW) (T G:aJ):bW (bx::rx::b3::qc::(T++sl::sk::vl::G)) (vl::sk::sl::x::osl::osk::ovl::bx::rx::b3::qc::(T++G)):=.trans (.sub (show List.Sublist (bx::rx::b3::qc::(T++sl::sk::vl::G)) (x::osl::osk::ovl::bx::rx::b3::qc::(T++sl::sk::vl::G)) from by
 have h:=Ye (x::osl::osk::[ovl]) (bx::rx::b3::qc::(T++sl::sk::vl::G))
 simpa using h)) (.perm (by
 have h:=ce (n:=13) [[vl],[sk],[sl],[x],[osl],[osk],[ovl],[bx],[rx],[b3],[qc],T,G] [3,4,5,6,7,8,9,10,11,2,1,0,12] rfl (by decide)
 exact(show (x::osl::osk::ovl::bx::rx::b3::qc::(T++sl::sk::vl::G)).Perm (vl::sk::sl::x::osl::osk::ovl::bx::rx::b3::qc::(T++G)) from by simpa using h)))
theorem acv (bx rx b3 qc ro rb pr qo qb qp z tz:Nat×Nat×aW) (NX NO S:aJ):bW (bx::pr::b3::qp::ro::rb::rx::qo::qb::qc::z::tz::(NX++(NO++S))) (bx::rx::b3::qc::(NX++ro::rb::pr::qo::qb::qp::z::tz::(NO++S))):=(.perm (by
 have h:=ce (n:=15) [[bx],[rx],[b3],[qc],NX,[ro],[rb],[pr],[qo],[qb],[qp],[z],[tz],NO,S] [0,7,2,10,5,6,1,8,9,3,11,12,4,13,14] rfl (by decide)
 exact(show (bx::pr::b3::qp::ro::rb::rx::qo::qb::qc::z::tz::(NX++(NO++S))).Perm (bx::rx::b3::qc::(NX++ro::rb::pr::qo::qb::qp::z::tz::(NO++S))) from by simpa using h)))
theorem adC (bx pr b3 qp ro rb rx qo qb qc z tz out rd:Nat×Nat×aW) (NX NO CB CL R:aJ):bW ((CB++(CL++ro::(NO++out::rb::rx::(NX++pr::rd::R))))) (bx::pr::b3::qp::ro::rb::rx::qo::qb::qc::z::tz::(NX++(NO++(CB++(CL++out::rd::R))))):=.trans (.sub (show List.Sublist ((CB++(CL++ro::(NO++out::rb::rx::(NX++pr::rd::R))))) (bx::b3::qp::qo::qb::qc::z::tz::(CB++(CL++ro::(NO++out::rb::rx::(NX++pr::rd::R))))) from by
 have h:=Ye (bx::b3::qp::qo::qb::qc::z::[tz]) ((CB++(CL++ro::(NO++out::rb::rx::(NX++pr::rd::R)))))
 simpa using h)) (.perm (by
 have h:=ce (n:=19) [[bx],[pr],[b3],[qp],[ro],[rb],[rx],[qo],[qb],[qc],[z],[tz],NX,NO,CB,CL,[out],[rd],R] [0,2,3,7,8,9,10,11,14,15,4,13,16,5,6,12,1,17,18] rfl (by decide)
 exact(show (bx::b3::qp::qo::qb::qc::z::tz::(CB++(CL++ro::(NO++out::rb::rx::(NX++pr::rd::R))))).Perm (bx::pr::b3::qp::ro::rb::rx::qo::qb::qc::z::tz::(NX++(NO++(CB++(CL++out::rd::R))))) from by simpa using h)))
theorem pE (x nm fl x9 bx ro b3 qo:Nat×Nat×aW) (T G:aJ):bW (bx::ro::b3::qo::((T++[fl,nm])++G)) (x::nm::fl::x9::bx::ro::b3::qo::(T++G)):=by
 have h:=adN x nm fl x9 bx ro b3 qo T G
 simpa using h
theorem pT (vl sk sl x osl osk ovl bx rx b3 qc:Nat×Nat×aW) (T G:aJ):bW (bx::rx::b3::qc::((T++[sl,sk,vl])++G)) (vl::sk::sl::x::osl::osk::ovl::bx::rx::b3::qc::(T++G)):=by
 have h:=adi vl sk sl x osl osk ovl bx rx b3 qc T G
 simpa using h
theorem pj (a b c:Nat×Nat×aW) (R:aJ):bW (c::a::b::R) (a::b::c::R):=.perm (((List.Perm.swap a c (b::R)).trans ((List.Perm.swap b c R).cons a)))
theorem uY (rb x bx b3:Nat×Nat×aW) (G:aJ):bW (bx::rb::b3::G) (rb::x::bx::b3::G):=.trans (.perm (List.Perm.swap rb bx (b3::G))) (.sub (.cons_cons _ (.cons _ (Z0 _))))
def bxC (x:ah) (y:jm) (o b c:TV) (v:Int):List TV:=[.ms y.1.1.1.1 y.1.1.1.2 0 x.base.classes.length,.ms y.1.2.1.1.1 y.1.2.1.1.2 0 x.base.codes.length,.ms y.1.2.2.1 y.1.2.2.2 0 x.base.entries.length,.int .i64 x.base.main,.ms y.2.1.1.1.1 y.2.1.1.1.2 0 x.store.classes.length,o,.ms y.2.1.2.2.1 y.2.1.2.2.2 0 x.store.output.length,.int .i64 x.store.ticks,.int .i64 x.store.budget,.int .i64 x.store.made,b,c,.ms y.2.2.2.2.1.1 y.2.2.2.2.1.2 0 x.processes.length,.ms y.2.2.2.2.2.1 y.2.2.2.2.2.2 0 x.ready.length,.int .i64 x.now,.int .i64 x.status,.int .i64 x.value.kind,.int .i64 v,.str x.value.text,.str x.fault]
def nmk (c:List Int) (a b d:Int) (k:Nat):List Int:=if k=0 then [a,b,d] else if k=1 then [mvI c a,b,d] else [mvI c a,mvI c b,d]
theorem yO (c:List Int) (o:az) (h:o.numbers.length=0):mvM c o=o.numbers:=by
 unfold mvM
 split
 ·rename_i e;rw[e] at h;cases h
 ·rfl
theorem aeO (c:List Int) (o:az) (h:o.kind≠1):mvM c o=o.numbers:=by
 unfold mvM
 split
 ·rename_i e;rw[if_neg h,e]
 ·rfl
theorem uV (c:List Int) (o:az) (a b d:Int) (hn:o.numbers=[a,b,d]) (h:o.kind=1):mvM c o=nmk c a b d 2:=by
 unfold mvM
 rw[hn]
 simp[h,nmk]
section
variable {G:World->Prop}
theorem vC (hst:aC G) (f lo:Nat) (m:ah) (hsm:m.small 1048576) (hN:vP m) (hP:aeK m):CtM Tryz.prog G 81 [.cp f (m.tw lo)] [] (imI (adF m)) (imO (adF m)) (fun y=>.agg (imC (adF m) y)):=by
 refine aA Tryz.func81 rfl Tryz.ntmps81 rfl rfl rfl fun w0 R gs objsR hG hR=>?_
 obtain rfl:=hR.inv0
 clear hR
 have c1:=zU (f:=f) (lo:=lo) hst hN hsm
 have hcp:=wN hst f lo m hsm
 unfold ah.tw at c1 hcp |-
 unfold imC at hcp
 repeat' (first|refine H_ 2 ?_|(refine am ?_;intro ss bb)|refine ac ?_|((with_reducible apply aB);rfl;kernel_rfl;(repeat (first|exact ay.nil|((with_reducible apply ay.cons);rfl)));exact hG;exact c1;exact .nil _;rintro ⟨q,z,L⟩ hF;refine aT (objs':=(q.1.1,q.1.2,_)::(q.2.1.1,q.2.1.2,_)::(q.2.2.1.1,q.2.2.1.2,_)::(q.2.2.2.1,q.2.2.2.2,_)::(z.1,z.2,_)::_) rfl ?_))
 refine⟨?_⟩
 dsimp only
 rename_i s2 b2
 generalize ss=s3;generalize bb=b3
 obtain⟨f1,f2,f3,f4⟩:=hF.fits
 have z1:=hsm.2.1.2.1.1
 have z2:=hsm.2.2.1.1
 have z3:=hsm.2.2.2.1.1
 have z4:=hsm.2.2.2.2.1.1
 have k1:=ff (ar m).o
 have k2:=ff (ar m).b
 have k3:=ff (ar m).c
 have k4:=ff (ar m).p
 have p1:=jz hst 0 (ar m).o (by omega)
 have p2:=jz hst 0 (ar m).b (by omega)
 have p3:=jz hst 0 (ar m).c (by omega)
 repeat' (first|refine H_ 9 ?_|refine sD hG hst (p1) ?_|refine sD hG hst (p2) ?_|refine sD hG hst (p3) ?_|(refine am ?_;intro ss bb)|refine ac ?_|((with_reducible apply aB);rfl;kernel_rfl;(repeat (first|exact ay.nil|((with_reducible apply ay.cons);rfl)));exact hG;exact hcp;exact .nil _;intro y hy))
 refine⟨?_⟩
 generalize ss=s7;generalize bb=b7
 refine fS 5 4 (by decide) rfl fun so=>?_
 refine fS 10 6 (by decide) rfl fun sb=>?_
 refine fS 11 14 (by decide) rfl fun sx=>?_
 dsimp only [List.set]
 have hkc:=abb hF
 have hcc:=ae (kpC m)
 have hix:=fun k (hk:k<((kpC m).length:Int))=>xJ hst w0.heap.size k (kpC m) hk
 have hmv1:=fun(v:ab) (h:iP m v)=>qW hst w0.heap.size w0.heap.size (kpO m) (kpB m) v.kind v.number v.text (qH h hF).1 (qH h hF).2
 have hmvA:=fun(l0:Nat) (l:List ab) (hl:l.length<=1048576) (hv:∀v∈l,iP m v)=>tI hst l0 w0.heap.size w0.heap.size (kpO m) (kpB m) l hl fun v h=>qH (hv v h) hF
 have hkO:plc (ar m).o=kpO m:=rfl
 have hkB:plc (ar m).b=kpB m:=rfl
 have hkC:plc (ar m).c=kpC m:=rfl
 rw[hkO,hkB,hkC]
 clear p1 p2 p3 c1 hcp
 obtain⟨S0,hS0⟩:∃S0:aJ,S0=(cbO m.base y.1++(pV m.store.classes y.2.1.1++((y.2.1.2.2.1,y.2.1.2.2.2,.row 1 (bQ m.store.output))::(y.2.2.2.2.2.1,y.2.2.2.2.2.2,.row 1 (aL m.ready))::R))):=⟨_,rfl⟩
 refine aV (objs':=(s7,b7,.box (bxC m y (.ms so 0 0 0) (.ms sb 0 0 0) (.ms sx 0 0 0) (m.value.number)))::(so,0,.row 4 [])::(s3,b3,.box [.ms q.1.1 q.1.2 0 (ar m).o.length,.ms q.2.1.1 q.2.1.2 0 (ar m).b.length,.ms q.2.2.1.1 q.2.2.1.2 0 (ar m).c.length,.ms q.2.2.2.1 q.2.2.2.2 0 (ar m).p.length,.ms z.1 z.2 0 L.length])::(q.1.1,q.1.2,.row 1 (bR (ar m).o))::(sb,0,.row 6 [])::(sx,0,.row 14 [])::(y.2.2.2.2.1.1,y.2.2.2.2.1.2,.row 2 ((m.processes).map (ao.tw 0)))::(q.2.1.1,q.2.1.2,.row 1 (bR (ar m).b))::(q.2.2.1.1,q.2.2.1.2,.row 1 (bR (ar m).c))::(q.2.2.2.1,q.2.2.2.2,.row 1 (bR (ar m).p))::(z.1,z.2,.row 3 (L.map (ab.tw 0)))::(s2,b2,.box ah.tz)::S0) (by
   rw[hS0]
   have h:=adu (s7,b7,.box (bxC m y (.ms so 0 0 0) (.ms sb 0 0 0) (.ms sx 0 0 0) (m.value.number))) (sx,0,aW.row 14 []) (sb,0,aW.row 6 []) (so,0,aW.row 4 []) (y.2.1.2.2.1,y.2.1.2.2.2,aW.row 1 (bQ m.store.output)) (y.2.2.1.1,y.2.2.1.2,aW.row 6 (m.blocks.map (ap.tw 0))) (y.2.2.2.2.1.1,y.2.2.2.2.1.2,.row 2 ((m.processes).map (ao.tw 0))) (y.2.2.2.2.2.1,y.2.2.2.2.2.2,aW.row 1 (aL m.ready)) (s3,b3,.box [.ms q.1.1 q.1.2 0 (ar m).o.length,.ms q.2.1.1 q.2.1.2 0 (ar m).b.length,.ms q.2.2.1.1 q.2.2.1.2 0 (ar m).c.length,.ms q.2.2.2.1 q.2.2.2.2 0 (ar m).p.length,.ms z.1 z.2 0 L.length]) (q.1.1,q.1.2,.row 1 (bR (ar m).o)) (q.2.1.1,q.2.1.2,.row 1 (bR (ar m).b)) (q.2.2.1.1,q.2.2.1.2,.row 1 (bR (ar m).c)) (q.2.2.2.1,q.2.2.2.2,.row 1 (bR (ar m).p)) (z.1,z.2,.row 3 (L.map (ab.tw 0))) (s2,b2,.box ah.tz) (cbO m.base y.1) (pV m.store.classes y.2.1.1) (ado m.store.objects y.2.1.2.1) (acX m.contexts y.2.2.2.1) R
   exact(show bW _ ((s7,b7,.box (bxC m y (.ms so 0 0 0) (.ms sb 0 0 0) (.ms sx 0 0 0) (m.value.number)))::(sx,0,aW.row 14 [])::(sb,0,aW.row 6 [])::(so,0,aW.row 4 [])::(imO m y++((s3,b3,.box [.ms q.1.1 q.1.2 0 (ar m).o.length,.ms q.2.1.1 q.2.1.2 0 (ar m).b.length,.ms q.2.2.1.1 q.2.2.1.2 0 (ar m).c.length,.ms q.2.2.2.1 q.2.2.2.2 0 (ar m).p.length,.ms z.1 z.2 0 L.length])::(q.1.1,q.1.2,.row 1 (bR (ar m).o))::(q.2.1.1,q.2.1.2,.row 1 (bR (ar m).b))::(q.2.2.1.1,q.2.2.1.2,.row 1 (bR (ar m).c))::(q.2.2.2.1,q.2.2.2.2,.row 1 (bR (ar m).p))::(z.1,z.2,.row 3 (L.map (ab.tw 0)))::(s2,b2,.box ah.tz)::R))) from by simpa [imO,stO] using h)) ?_
 obtain⟨G1,hG1⟩:∃G1:aJ,G1=(sb,0,.row 6 [])::(sx,0,.row 14 [])::(y.2.2.2.2.1.1,y.2.2.2.2.1.2,.row 2 ((m.processes).map (ao.tw 0)))::(q.2.1.1,q.2.1.2,.row 1 (bR (ar m).b))::(q.2.2.1.1,q.2.2.1.2,.row 1 (bR (ar m).c))::(q.2.2.2.1,q.2.2.2.2,.row 1 (bR (ar m).p))::(z.1,z.2,.row 3 (L.map (ab.tw 0)))::(s2,b2,.box ah.tz)::S0:=⟨_,rfl⟩
 rw[<- hG1]
 unfold bxC
 repeat' refine W_ ?_
 apply aj (X:=Nat×Nat×List (Pl×Pl)) [0,2,3,4,5,6,7,1000000] (fun x=>[(8,.int .i64 (x.1:Int))])
   (fun x=>(s7,b7,.box (bxC m y (.ms so x.2.1 0 (mg m x.1).length) (.ms sb 0 0 0) (.ms sx 0 0 0) (m.value.number)))::(so,x.2.1,.row 4 (nRg cu (mg m x.1) x.2.2))::(s3,b3,.box [.ms q.1.1 q.1.2 0 (ar m).o.length,.ms q.2.1.1 q.2.1.2 0 (ar m).b.length,.ms q.2.2.1.1 q.2.2.1.2 0 (ar m).c.length,.ms q.2.2.2.1 q.2.2.2.2 0 (ar m).p.length,.ms z.1 z.2 0 L.length])::(q.1.1,q.1.2,.row 1 (bR (ar m).o))::(nOg cS (mg m x.1) x.2.2++G1))
   (fun x=>x.1<=m.store.objects.length/\x.2.2.length=(mg m x.1).length) (fun x=>m.store.objects.length - x.1) (0,0,[]) ⟨Zd _,by rw[kZ];rfl⟩
 exact kp_;exact nw_
 ·rw[kZ];exact .refl _
 rintro ⟨i,bo,ps⟩ ⟨hi,hps⟩
 dsimp only at hi hps |-
 unfold bxC
 by_cases hlt:i<m.store.objects.length
 ·have hkr:=fe (l:=(ar m).o) (n:=i) (by omega)
  have hke:=Za (l:=(ar m).o) (i:=i) (by omega)
  have hoe:=Za hlt
  cases hk:(ar m).o[i]'(by omega) with
  | true =>
    rw[hk] at hkr hke
    have hsu:mg m (i+1)=mg m i++[mvO (kpO m) (kpB m) (kpC m) m.store.objects[i]]:=aaj hoe hke
    have hLl:(mg m i).length<=i:=lQ _ _ _ _
    have hra:(m.store.objects.map (az.tw lo))[i]?=some (m.store.objects[i].tw lo):=aK hlt
    have hbi:=hsm.2.1.2.1.2 _ (Zb hlt)
    have hfi:=hN.fld _ (Zb hlt)
    have hon:=hN.one _ (Zb hlt)
    have hol:=az.len lo m.store.objects
    generalize m.store.objects[i]=c at hra hbi hfi hsu hon
    rw[show c.tw lo=[.int .i64 c.kind,.int .i64 c.class_,.sl lo 3 (c.fields.map (ab.tw lo)),.sl lo 1 (aL c.numbers)] from rfl] at hra
    have hf1:=hbi.1.1
    have hf2:=hbi.2
    have hmv:=hmvA lo c.fields hf1 hfi
    have hnw:=mJ (c.fields.map (mvV (kpO m) (kpB m))) c.fields.length
    generalize mg m i=LO at hsu hLl hps |-
    have hln:(nRg cu LO ps).length=LO.length:=gr _ hps
    have hln1:(LO++[mvO (kpO m) (kpB m) (kpC m) c]).length=LO.length+1:=by simp
    have hob:=fun p=>sM cS hps (mvO (kpO m) (kpB m) (kpC m) c) p
    have hsn0:=fun p=>sI cu hps (mvO (kpO m) (kpB m) (kpC m) c) p
    have hmk:∀p,cu (mvO (kpO m) (kpB m) (kpC m) c) p=[.int .i64 c.kind,.int .i64 c.class_,.ms p.1.1 p.1.2 0 c.fields.length,.ms p.2.1 p.2.2 0 c.numbers.length]:=fun p=>by simp[cu,mvO,xm]
    simp only[hmk] at hsn0
    generalize nOg cS LO ps=T0 at hob |-
    repeat' (first|refine W_ ?_|(refine am ?_;intro ss bb)|refine ac ?_|((with_reducible apply dv (id:=14) 15);kernel_rfl;kernel_rfl;kernel_rfl;rfl;(repeat (first|exact Cut.zero _|apply Cut.succ)))|((with_reducible apply m_q);exact ym_;rfl;exact eh)|((with_reducible apply cr);rfl;(intro p;try dsimp only);(repeat (first|exact TB.nil _|((with_reducible apply TB.cons);rfl;rfl;(first|exact .nil _|exact .put _ _ _ _ _ (.nil _)|exact .skip _ _ _ _ _ (.put _ _ _ _ _ (.nil _))|exact .skip _ _ _ _ _ (.skip _ _ _ _ _ (.put _ _ _ _ _ (.nil _)))|(repeat (first|exact .nil _|apply aY.put|apply aY.skip)));kernel_rfl)));rfl;kernel_rfl;kernel_rfl;exact eh)|((with_reducible apply gW);rfl;rfl;kernel_rfl)|((with_reducible apply tp);(intro p;rfl);rfl;kernel_rfl;kernel_rfl;rfl;kernel_rfl;rfl;rfl;rfl;rfl)|((with_reducible apply lM);(intro p;rfl);(intro p;rfl);rfl;kernel_rfl;(intro p;rfl);(first|with_reducible assumption|exact aw _|exact ae _|exact av _|exact Ze _|assumption|rfl);omega;exact⟨by decide,ah_⟩;rfl;(focus (simp;done)))|((with_reducible apply fJ hG hst hmv);rfl;kernel_rfl;(intro p;(repeat (first|exact bD.nil|((with_reducible apply bD.cons);rfl;exact .same _))));exact hnw)|(with_reducible refine DM.nil _ _ _ ?_))
    generalize ss=s9;generalize bb=b9
    intro p hp
    clear hp
    refine aT (objs':=((p 14).a,(p 14).b,.box [.int .i64 0,.int .i64 0,.nils,.nils])::((p 9).a,(p 12).b,.row 1 (aL c.numbers))::((Enc.dec (p 8):Nat×Nat).1,(Enc.dec (p 8):Nat×Nat).2,.row 3 ((c.fields.map (mvV (kpO m) (kpB m))).map (ab.tw 0)))::(s9,b9,.box [.int .i64 c.kind,.int .i64 c.class_,.sl lo 3 (c.fields.map (ab.tw lo)),.sl lo 1 (aL c.numbers)])::(s7,b7,.box (bxC m y (.ms so bo 0 LO.length) (.ms sb 0 0 0) (.ms sx 0 0 0) (m.value.number)))::(so,bo,.row 4 (nRg cu LO ps))::(s3,b3,.box [.ms q.1.1 q.1.2 0 (ar m).o.length,.ms q.2.1.1 q.2.1.2 0 (ar m).b.length,.ms q.2.2.1.1 q.2.2.1.2 0 (ar m).c.length,.ms q.2.2.2.1 q.2.2.2.2 0 (ar m).p.length,.ms z.1 z.2 0 L.length])::(q.1.1,q.1.2,.row 1 (bR (ar m).o))::(T0++G1)) (by rw[show ed _=[_,_,_] from rfl];(try simp only[ZB,ZM,Zo,ZD,Zz]);(try rfl)) ?_
    dsimp only [Nat.reduceAdd]
    generalize Yu.a (p 14)=s10
    generalize Yu.b (p 14)=b10
    generalize (Enc.dec (p 8):Nat×Nat)=fl
    generalize Yu.a (p 9)=sn
    generalize Yu.b (p 12)=bn
    have hsn:=hsn0 ((fl.1,fl.2),(sn,bn))
    have hob:=hob ((fl.1,fl.2),(sn,bn))
    unfold bxC
    have hcas:c.numbers.length=0\/(0<c.numbers.length/\c.kind≠1)\/∃a b d,c.numbers=[a,b,d]/\c.kind=1/\(-1<=a/\a<m.contexts.length)/\(-1<=b/\b<m.contexts.length):=by
      by_cases h1:c.kind=1
      ·rcases hon h1 with h|⟨a,b,d,h,ha,hb⟩
       ·exact .inl (by rw[h];rfl)
       ·exact .inr (.inr ⟨a,b,d,h,h1,ha,hb⟩)
      ·by_cases h2:c.numbers.length=0
       ·exact .inl h2
       ·exact .inr (.inl ⟨by omega,h1⟩)
    rcases hcas with hz|⟨hz1,hz2⟩|⟨a,b,d,hnu,hk1,ha,hb⟩
    ·repeat' (first|refine W_ ?_|refine ac ?_)
     apply aj (X:=Nat) [0,2,3,4,5,6,7,8,10,1000000] (fun k=>[(11,.int .i64 (k:Int))]) (fun _=>(s10,b10,.box [.int .i64 c.kind,.int .i64 c.class_,.ms fl.1 fl.2 0 c.fields.length,.ms sn bn 0 c.numbers.length])::(sn,bn,.row 1 (aL c.numbers))::(fl.1,fl.2,.row 3 ((c.fields.map (mvV (kpO m) (kpB m))).map (ab.tw 0)))::(s9,b9,.box [.int .i64 c.kind,.int .i64 c.class_,.sl lo 3 (c.fields.map (ab.tw lo)),.sl lo 1 (aL c.numbers)])::(s7,b7,.box (bxC m y (.ms so bo 0 LO.length) (.ms sb 0 0 0) (.ms sx 0 0 0) (m.value.number)))::(so,bo,.row 4 (nRg cu LO ps))::(s3,b3,.box [.ms q.1.1 q.1.2 0 (ar m).o.length,.ms q.2.1.1 q.2.1.2 0 (ar m).b.length,.ms q.2.2.1.1 q.2.2.1.2 0 (ar m).c.length,.ms q.2.2.2.1 q.2.2.2.2 0 (ar m).p.length,.ms z.1 z.2 0 L.length])::(q.1.1,q.1.2,.row 1 (bR (ar m).o))::(T0++G1)) (fun k=>k=0) (fun _=>0) 0 rfl
     exact kp_;exact nw_
     ·exact .refl _
     rintro k rfl
     try dsimp only
     unfold bxC
     repeat' (first|refine W_ ?_|refine cK ?_|refine ac ?_|((with_reducible apply bT);rfl;rfl;rfl;kernel_rfl;(repeat (first|with_reducible exact mh|with_reducible refine mt ?_));exact hln;exact(rfl:_=1);omega;exact hsn;(intro bq;(repeat (first|with_reducible exact Upd.head _|with_reducible apply Upd.tail)));intro bz))
     refine ag (i+1,bz,ps++([((fl.1,fl.2),(sn,bn))]:List (Pl×Pl))) ⟨by dsimp only;omega,by dsimp only;rw[hsu,hln1,Zs,hps];rfl⟩ (by dsimp only;omega) (.of _ nw_ od_ ?_)
     dsimp only
     rw[hsu,hln1,hob]
     have hmm:mvM (kpC m) c=c.numbers:=yO _ _ hz
     have hoo:cS (mvO (kpO m) (kpB m) (kpC m) c) ((fl.1,fl.2),(sn,bn))=[(fl.1,fl.2,.row 3 ((c.fields.map (mvV (kpO m) (kpB m))).map (ab.tw 0))),(sn,bn,.row 1 (aL (c.numbers)))]:=by
       rw[<- hmm];rfl
     rw[hoo]
     exact pE _ _ _ _ _ _ _ _ T0 G1
    ·repeat' (first|refine W_ ?_|refine ac ?_)
     apply aj (X:=Nat) [0,2,3,4,5,6,7,8,10,1000000] (fun k=>[(11,.int .i64 (k:Int))]) (fun _=>(s10,b10,.box [.int .i64 c.kind,.int .i64 c.class_,.ms fl.1 fl.2 0 c.fields.length,.ms sn bn 0 c.numbers.length])::(sn,bn,.row 1 (aL c.numbers))::(fl.1,fl.2,.row 3 ((c.fields.map (mvV (kpO m) (kpB m))).map (ab.tw 0)))::(s9,b9,.box [.int .i64 c.kind,.int .i64 c.class_,.sl lo 3 (c.fields.map (ab.tw lo)),.sl lo 1 (aL c.numbers)])::(s7,b7,.box (bxC m y (.ms so bo 0 LO.length) (.ms sb 0 0 0) (.ms sx 0 0 0) (m.value.number)))::(so,bo,.row 4 (nRg cu LO ps))::(s3,b3,.box [.ms q.1.1 q.1.2 0 (ar m).o.length,.ms q.2.1.1 q.2.1.2 0 (ar m).b.length,.ms q.2.2.1.1 q.2.2.1.2 0 (ar m).c.length,.ms q.2.2.2.1 q.2.2.2.2 0 (ar m).p.length,.ms z.1 z.2 0 L.length])::(q.1.1,q.1.2,.row 1 (bR (ar m).o))::(T0++G1)) (fun k=>k=0) (fun _=>0) 0 rfl
     exact kp_;exact nw_
     ·exact .refl _
     rintro k rfl
     try dsimp only
     unfold bxC
     repeat' (first|refine W_ ?_|refine cK ?_|refine ac ?_|((with_reducible apply bT);rfl;rfl;rfl;kernel_rfl;(repeat (first|with_reducible exact mh|with_reducible refine mt ?_));exact hln;exact(rfl:_=1);omega;exact hsn;(intro bq;(repeat (first|with_reducible exact Upd.head _|with_reducible apply Upd.tail)));intro bz))
     refine ag (i+1,bz,ps++([((fl.1,fl.2),(sn,bn))]:List (Pl×Pl))) ⟨by dsimp only;omega,by dsimp only;rw[hsu,hln1,Zs,hps];rfl⟩ (by dsimp only;omega) (.of _ nw_ od_ ?_)
     dsimp only
     rw[hsu,hln1,hob]
     have hmm:mvM (kpC m) c=c.numbers:=aeO _ _ hz2
     have hoo:cS (mvO (kpO m) (kpB m) (kpC m) c) ((fl.1,fl.2),(sn,bn))=[(fl.1,fl.2,.row 3 ((c.fields.map (mvV (kpO m) (kpB m))).map (ab.tw 0))),(sn,bn,.row 1 (aL (c.numbers)))]:=by
       rw[<- hmm];rfl
     rw[hoo]
     exact pE _ _ _ _ _ _ _ _ T0 G1
    ·have hmm2:=uV (kpC m) c a b d hnu hk1
     have hnl:c.numbers.length=3:=by rw[hnu];rfl
     have ha2:=hix a (by omega)
     have hb2:=hix b (by omega)
     rw[hnu]
     rw[hk1,hnl] at hsn
     rw[hk1]
     repeat' (first|refine W_ ?_|refine ac ?_)
     apply aj (X:=Nat) [0,2,3,4,5,6,7,8,10,1000000] (fun k=>[(11,.int .i64 (k:Int))]) (fun k=>(s10,b10,.box [.int .i64 1,.int .i64 c.class_,.ms fl.1 fl.2 0 c.fields.length,.ms sn bn 0 3])::(sn,bn,.row 1 (aL (nmk (kpC m) a b d k)))::(fl.1,fl.2,.row 3 ((c.fields.map (mvV (kpO m) (kpB m))).map (ab.tw 0)))::(s9,b9,.box [.int .i64 1,.int .i64 c.class_,.sl lo 3 (c.fields.map (ab.tw lo)),.sl lo 1 (aL [a,b,d])])::(s7,b7,.box (bxC m y (.ms so bo 0 LO.length) (.ms sb 0 0 0) (.ms sx 0 0 0) (m.value.number)))::(so,bo,.row 4 (nRg cu LO ps))::(s3,b3,.box [.ms q.1.1 q.1.2 0 (ar m).o.length,.ms q.2.1.1 q.2.1.2 0 (ar m).b.length,.ms q.2.2.1.1 q.2.2.1.2 0 (ar m).c.length,.ms q.2.2.2.1 q.2.2.2.2 0 (ar m).p.length,.ms z.1 z.2 0 L.length])::(q.1.1,q.1.2,.row 1 (bR (ar m).o))::(T0++G1)) (fun k=>k<=2) (fun k=>2 - k) 0 (Zd _)
     exact kp_;exact nw_
     ·exact .refl _
     intro k hk2
     obtain e|e|e:k=0\/k=1\/k=2:=by omega
     ·have r0:(aL (nmk (kpC m) a b d k))[k]?=some [.int .i64 a]:=by rw[e];rfl
      have r1:(aL (nmk (kpC m) a b d k)).length=3:=by rw[e];rfl
      have r2:(aL (nmk (kpC m) a b d k)).set k [.int .i64 (mvI (kpC m) a)]=aL (nmk (kpC m) a b d (k+1)):=by rw[e];rfl
      try dsimp only
      unfold bxC
      generalize aL (nmk (kpC m) a b d k)=n0 at r0 r1 r2 |-
      repeat' (first|refine W_ ?_|((with_reducible apply dI (id:=18) 11);kernel_rfl;kernel_rfl;kernel_rfl;(repeat (first|exact Cut.zero _|apply Cut.succ)))|with_reducible refine eu (by kernel_rfl) (by kernel_rfl) ?_|with_reducible refine gu ?_|with_reducible refine ei ?_|with_reducible refine ek rfl ?_|refine gw rfl rfl rfl rr_ ?_|refine et rfl rfl rfl rr_ rfl rfl rfl ?_|refine dr rfl rfl rfl rr_ rfl rfl ?_|(refine ks rfl rfl rfl rr_ dd_ ?_)|(refine ky rfl rfl rfl rr_ dd_ ?_)|(refine cA rfl rfl rfl rr_ (fun hg=>?_) (fun hg=>?_))|(refine bX rfl rfl rfl rr_ (fun hg=>?_) (fun hg=>?_))|((with_reducible apply d_y);exact y_;rfl)|refine ai hG hst (ha2) ?_|refine bm ?_)
      refine ag (k+1) (by omega) (by omega) (.of _ nw_ od_ ?_)
      try dsimp only
      rw[<- r2]
      exact .refl _
     ·have r0:(aL (nmk (kpC m) a b d k))[k]?=some [.int .i64 b]:=by rw[e];rfl
      have r1:(aL (nmk (kpC m) a b d k)).length=3:=by rw[e];rfl
      have r2:(aL (nmk (kpC m) a b d k)).set k [.int .i64 (mvI (kpC m) b)]=aL (nmk (kpC m) a b d (k+1)):=by rw[e];rfl
      try dsimp only
      unfold bxC
      generalize aL (nmk (kpC m) a b d k)=n0 at r0 r1 r2 |-
      repeat' (first|refine W_ ?_|((with_reducible apply dI (id:=18) 11);kernel_rfl;kernel_rfl;kernel_rfl;(repeat (first|exact Cut.zero _|apply Cut.succ)))|with_reducible refine eu (by kernel_rfl) (by kernel_rfl) ?_|with_reducible refine gu ?_|with_reducible refine ei ?_|with_reducible refine ek rfl ?_|refine gw rfl rfl rfl rr_ ?_|refine et rfl rfl rfl rr_ rfl rfl rfl ?_|refine dr rfl rfl rfl rr_ rfl rfl ?_|(refine ks rfl rfl rfl rr_ dd_ ?_)|(refine ky rfl rfl rfl rr_ dd_ ?_)|(refine cA rfl rfl rfl rr_ (fun hg=>?_) (fun hg=>?_))|(refine bX rfl rfl rfl rr_ (fun hg=>?_) (fun hg=>?_))|((with_reducible apply d_y);exact y_;rfl)|refine ai hG hst (hb2) ?_|refine bm ?_)
      refine ag (k+1) (by omega) (by omega) (.of _ nw_ od_ ?_)
      try dsimp only
      rw[<- r2]
      exact .refl _
     ·try dsimp only
      unfold bxC
      have r1:(aL (nmk (kpC m) a b d k)).length=3:=by rw[e];rfl
      have hmm2:mvM (kpC m) c=nmk (kpC m) a b d k:=by rw[e];exact hmm2
      repeat' (first|refine W_ ?_|refine cK ?_|refine ac ?_|((with_reducible apply bT);rfl;rfl;rfl;kernel_rfl;(repeat (first|with_reducible exact mh|with_reducible refine mt ?_));exact hln;exact(rfl:_=1);omega;exact hsn;(intro bq;(repeat (first|with_reducible exact Upd.head _|with_reducible apply Upd.tail)));intro bz))
      refine ag (i+1,bz,ps++([((fl.1,fl.2),(sn,bn))]:List (Pl×Pl))) ⟨by dsimp only;omega,by dsimp only;rw[hsu,hln1,Zs,hps];rfl⟩ (by dsimp only;omega) (.of _ nw_ od_ ?_)
      dsimp only
      rw[hsu,hln1,hob]
      have hmm:mvM (kpC m) c=nmk (kpC m) a b d k:=hmm2
      have hoo:cS (mvO (kpO m) (kpB m) (kpC m) c) ((fl.1,fl.2),(sn,bn))=[(fl.1,fl.2,.row 3 ((c.fields.map (mvV (kpO m) (kpB m))).map (ab.tw 0))),(sn,bn,.row 1 (aL (nmk (kpC m) a b d k)))]:=by
        rw[<- hmm];rfl
      rw[hoo]
      exact pE _ _ _ _ _ _ _ _ T0 G1
  | false =>
    rw[hk] at hkr hke
    have hsu:mg m (i+1)=mg m i:=aal hoe hke
    repeat' refine W_ ?_
    refine ag (i+1,bo,ps) ⟨by dsimp only;omega,by dsimp only;rw[hsu];exact hps⟩ (by dsimp only;omega) (.of _ nw_ od_ ?_)
    dsimp only
    rw[hsu]
    exact .refl _
 obtain rfl:i=m.store.objects.length:=by omega
 obtain⟨LO,hLO⟩:∃LO,LO=mg m m.store.objects.length:=⟨_,rfl⟩
 rw[<- hLO] at hps |-
 obtain⟨NO,hNO⟩:∃NO:aJ,NO=nOg cS LO ps:=⟨_,rfl⟩
 rw[<- hNO,hG1]
 refine aV (acQ _ _ _ _ _ _ _ _ _ _ _ _ NO S0) ?_
 obtain⟨G2,hG2⟩:∃G2:aJ,G2=(so,bo,.row 4 (nRg cu LO ps))::(sx,0,.row 14 [])::(y.2.2.2.2.1.1,y.2.2.2.2.1.2,.row 2 ((m.processes).map (ao.tw 0)))::(q.1.1,q.1.2,.row 1 (bR (ar m).o))::(q.2.2.1.1,q.2.2.1.2,.row 1 (bR (ar m).c))::(q.2.2.2.1,q.2.2.2.2,.row 1 (bR (ar m).p))::(z.1,z.2,.row 3 (L.map (ab.tw 0)))::(s2,b2,.box ah.tz)::(NO++S0):=⟨_,rfl⟩
 rw[<- hG2]
 repeat' refine W_ ?_
 apply aj (X:=Nat×Nat) [0,2,3,4,5,6,7,1000000] (fun x=>[(12,.int .i64 (x.1:Int))])
   (fun x=>(s7,b7,.box (bxC m y (.ms so bo 0 LO.length) (.ms sb x.2 0 (qd m x.1).length) (.ms sx 0 0 0) (m.value.number)))::(sb,x.2,.row 6 ((qd m x.1).map (ap.tw 0)))::(s3,b3,.box [.ms q.1.1 q.1.2 0 (ar m).o.length,.ms q.2.1.1 q.2.1.2 0 (ar m).b.length,.ms q.2.2.1.1 q.2.2.1.2 0 (ar m).c.length,.ms q.2.2.2.1 q.2.2.2.2 0 (ar m).p.length,.ms z.1 z.2 0 L.length])::(q.2.1.1,q.2.1.2,.row 1 (bR (ar m).b))::G2)
   (fun x=>x.1<=m.blocks.length) (fun x=>m.blocks.length - x.1) (0,0) (Zd _)
 exact kp_;exact nw_
 ·rw[ur];exact .refl _
 rintro ⟨i,bk⟩ hi
 dsimp only at hi |-
 unfold bxC
 by_cases hlt:i<m.blocks.length
 ·have hkr:=fe (l:=(ar m).b) (n:=i) (by omega)
  have hke:=Za (l:=(ar m).b) (i:=i) (by omega)
  have hoe:=Za hlt
  cases hk:(ar m).b[i]'(by omega) with
  | true =>
    rw[hk] at hkr hke
    have hsu:qd m (i+1)=qd m i++[mvB (kpO m) (kpB m) (kpC m) m.blocks[i]]:=aaj hoe hke
    have hLl:(qd m i).length<=i:=lQ _ _ _ _
    have hra:(m.blocks.map (ap.tw lo))[i]?=some (m.blocks[i].tw lo):=aK hlt
    have hbk:=hN.blk _ (Zb hlt)
    have hol:=ap.len lo m.blocks
    generalize m.blocks[i]=c at hra hbk hsu
    rw[show c.tw lo=[.int .i64 c.code,.int .i64 c.outer,.int .i64 c.home,.int .i64 c.self.kind,.int .i64 c.self.number,.str c.self.text] from rfl] at hra
    obtain⟨u,hu1,hu2,hu3⟩:=wL (c:=kpC m) hbk.2.1.1 (by rw[hkc];exact hbk.2.1.2)
    obtain⟨v,hv1,hv2,hv3⟩:=wL (c:=kpC m) hbk.2.2.1 (by rw[hkc];exact hbk.2.2.2)
    rw[hu1,hv1] at hra
    have hmv:=hmv1 c.self hbk.1
    generalize qd m i=LB at hsu hLl |-
    have hln:(LB.map (ap.tw 0)).length=LB.length:=Ze _
    have hln1:(LB++[mvB (kpO m) (kpB m) (kpC m) c]).length=LB.length+1:=by simp
    have hsn:LB.map (ap.tw 0)++[[.int .i64 c.code,.int .i64 (mvI (kpC m) c.outer),.int .i64 (mvI (kpC m) c.home),.int .i64 c.self.kind,.int .i64 (mvN (kpO m) (kpB m) c.self.kind c.self.number),.str c.self.text]]=(LB++[mvB (kpO m) (kpB m) (kpC m) c]).map (ap.tw 0):=by rw[Z1];rfl
    repeat' (first|refine W_ ?_|(refine am ?_;intro ss bb)|refine ac ?_)
    generalize ss=s9;generalize bb=b9
    refine aV (pj _ _ _ _) ?_
    repeat' (first|refine W_ ?_|((with_reducible apply eS (id:=25) 23);kernel_rfl;kernel_rfl;kernel_rfl;rfl;(repeat (first|exact Cut.zero _|apply Cut.succ)))|((with_reducible apply m_q);exact ym_;rfl;exact eh)|((with_reducible apply cr);rfl;(intro p;try dsimp only);(repeat (first|exact TB.nil _|((with_reducible apply TB.cons);rfl;rfl;(first|exact .nil _|exact .put _ _ _ _ _ (.nil _)|exact .skip _ _ _ _ _ (.put _ _ _ _ _ (.nil _))|exact .skip _ _ _ _ _ (.skip _ _ _ _ _ (.put _ _ _ _ _ (.nil _)))|(repeat (first|exact .nil _|apply aY.put|apply aY.skip)));kernel_rfl)));rfl;kernel_rfl;kernel_rfl;exact eh)|((with_reducible apply i5);(intro p;rfl);rfl;kernel_rfl;kernel_rfl;rfl;kernel_rfl;rfl;(intro p;rfl);rfl;(intro p;rfl);exact eh)|((with_reducible apply iK hG hst hmv);rfl;kernel_rfl;(intro p;(repeat (first|exact bD.nil|((with_reducible apply bD.cons);rfl;exact .same _)))))|((with_reducible apply jA);(intro p;rfl);(intro p;rfl);rfl;kernel_rfl;(intro p;rfl);exact hln;(intro p;show List.length _=1;rfl);omega;exact fun p=>hsn;exact⟨by decide,by decide⟩;exact oE;rfl;(focus (simp;done)))|(with_reducible refine DM.nil _ _ _ ?_))
    intro p hp
    clear hp
    refine aT (objs':=(sb,(p 21).b,.row 6 ((LB++[mvB (kpO m) (kpB m) (kpC m) c]).map (ap.tw 0)))::(s9,b9,.box [.int .i64 c.code,.int .i64 (u:Int),.int .i64 (v:Int),.int .i64 c.self.kind,.int .i64 c.self.number,.str c.self.text])::(s7,b7,.box (bxC m y (.ms so bo 0 LO.length) (.ms sb bk 0 LB.length) (.ms sx 0 0 0) (m.value.number)))::(s3,b3,.box [.ms q.1.1 q.1.2 0 (ar m).o.length,.ms q.2.1.1 q.2.1.2 0 (ar m).b.length,.ms q.2.2.1.1 q.2.2.1.2 0 (ar m).c.length,.ms q.2.2.2.1 q.2.2.2.2 0 (ar m).p.length,.ms z.1 z.2 0 L.length])::(q.2.1.1,q.2.1.2,.row 1 (bR (ar m).b))::G2) (by rw[show ed _=[_] from rfl];(try simp only[ZB,ZM,Zo,ZD,Zz]);(try rfl)) ?_
    dsimp only [Nat.reduceAdd]
    generalize Yu.b (p 21)=bz
    unfold bxC
    repeat' (first|refine W_ ?_|refine ac ?_)
    refine ag (i+1,bz) (by dsimp only;omega) (by dsimp only;omega) (.of _ nw_ od_ ?_)
    dsimp only
    rw[hsu,hln1]
    exact uY _ _ _ _ _
  | false =>
    rw[hk] at hkr hke
    have hsu:qd m (i+1)=qd m i:=aal hoe hke
    repeat' refine W_ ?_
    refine ag (i+1,bk) (by dsimp only;omega) (by dsimp only;omega) (.of _ nw_ od_ ?_)
    dsimp only
    rw[hsu]
    exact .refl _
 obtain rfl:i=m.blocks.length:=by omega
 obtain⟨LB,hLB⟩:∃LB,LB=qd m m.blocks.length:=⟨_,rfl⟩
 rw[<- hLB,hG2]
 refine aV (ab4 _ _ _ _ _ _ _ _ _ _ _ _ NO S0) ?_
 obtain⟨G3,hG3⟩:∃G3:aJ,G3=(so,bo,.row 4 (nRg cu LO ps))::(sb,bk,.row 6 (LB.map (ap.tw 0)))::(y.2.2.2.2.1.1,y.2.2.2.2.1.2,.row 2 ((m.processes).map (ao.tw 0)))::(q.1.1,q.1.2,.row 1 (bR (ar m).o))::(q.2.1.1,q.2.1.2,.row 1 (bR (ar m).b))::(q.2.2.2.1,q.2.2.2.2,.row 1 (bR (ar m).p))::(z.1,z.2,.row 3 (L.map (ab.tw 0)))::(s2,b2,.box ah.tz)::(NO++S0):=⟨_,rfl⟩
 rw[<- hG3]
 repeat' refine W_ ?_
 apply aj (X:=Nat×Nat×List (Pl×Pl×Pl)) [0,2,3,4,5,6,7,1000000] (fun x=>[(14,.int .i64 (x.1:Int))])
   (fun x=>(s7,b7,.box (bxC m y (.ms so bo 0 LO.length) (.ms sb bk 0 LB.length) (.ms sx x.2.1 0 (lV m x.1).length) (m.value.number)))::(sx,x.2.1,.row 14 (nRg cR (lV m x.1) x.2.2))::(s3,b3,.box [.ms q.1.1 q.1.2 0 (ar m).o.length,.ms q.2.1.1 q.2.1.2 0 (ar m).b.length,.ms q.2.2.1.1 q.2.2.1.2 0 (ar m).c.length,.ms q.2.2.2.1 q.2.2.2.2 0 (ar m).p.length,.ms z.1 z.2 0 L.length])::(q.2.2.1.1,q.2.2.1.2,.row 1 (bR (ar m).c))::(nOg de (lV m x.1) x.2.2++G3))
   (fun x=>x.1<=m.contexts.length/\x.2.2.length=(lV m x.1).length) (fun x=>m.contexts.length - x.1) (0,0,[]) ⟨Zd _,by rw[lp];rfl⟩
 exact kp_;exact nw_
 ·rw[lp];exact .refl _
 rintro ⟨i,bx,px⟩ ⟨hi,hpx⟩
 dsimp only at hi hpx |-
 unfold bxC
 by_cases hlt:i<m.contexts.length
 ·have hkr:=fe (l:=(ar m).c) (n:=i) (by omega)
  have hke:=Za (l:=(ar m).c) (i:=i) (by omega)
  have hoe:=Za hlt
  cases hk:(ar m).c[i]'(by omega) with
  | true =>
    rw[hk] at hkr hke
    have hsu:lV m (i+1)=lV m i++[mvC (kpO m) (kpB m) (kpC m) m.contexts[i]]:=aaj hoe hke
    have hLl:(lV m i).length<=i:=lQ _ _ _ _
    have hra:(m.contexts.map (aq.tw lo))[i]?=some (m.contexts[i].tw lo):=aK hlt
    have hbi:=hsm.2.2.2.1.2 _ (Zb hlt)
    have hfi:=hN.ctx i hlt
    have hol:=aq.len lo m.contexts
    generalize m.contexts[i]=c at hra hbi hfi hsu
    rw[show c.tw lo=[.int .i64 c.mark,.int .i64 c.code,.int .i64 c.pc,.int .i64 c.sender,.int .i64 c.outer,.int .i64 c.home,.int .i64 c.self.kind,.int .i64 c.self.number,.str c.self.text,.sl lo 3 (c.slots.map (ab.tw lo)),.sl lo 3 (c.stack.map (ab.tw lo)),.sl lo 3 (c.values.map (ab.tw lo)),.int .i64 c.other,.bool c.retry] from rfl] at hra
    obtain⟨g1,g2,g3,g4,g5,g6,g7,g8⟩:=hfi
    have c2:=gJ (G:=G) lo c hbi
    have x1:=hix c.sender (by omega)
    have x2:=hix c.outer (by omega)
    have x3:=hix c.home (by omega)
    have x5:=hmv1 c.self g5
    have x6:=hmvA 0 c.slots hbi.2.1.1 g6
    have x7:=hmvA 0 c.stack hbi.2.2.1.1 g7
    have x8:=hmvA 0 c.values hbi.2.2.2.1 g8
    have n6:=mJ (c.slots.map (mvV (kpO m) (kpB m))) c.slots.length
    have n7:=mJ (c.stack.map (mvV (kpO m) (kpB m))) c.stack.length
    have n8:=mJ (c.values.map (mvV (kpO m) (kpB m))) c.values.length
    generalize lV m i=LC at hsu hLl hpx |-
    have hln:(nRg cR LC px).length=LC.length:=gr _ hpx
    have hln1:(LC++[mvC (kpO m) (kpB m) (kpC m) c]).length=LC.length+1:=by simp
    have hob0:=fun p=>sM de hpx (mvC (kpO m) (kpB m) (kpC m) c) p
    have hsn0:=fun p=>sI cR hpx (mvC (kpO m) (kpB m) (kpC m) c) p
    have hmk:∀p,cR (mvC (kpO m) (kpB m) (kpC m) c) p=[.int .i64 c.mark,.int .i64 c.code,.int .i64 c.pc,.int .i64 (mvI (kpC m) c.sender),.int .i64 (mvI (kpC m) c.outer),.int .i64 (mvI (kpC m) c.home),.int .i64 c.self.kind,.int .i64 (mvN (kpO m) (kpB m) c.self.kind c.self.number),.str c.self.text,.ms p.1.1 p.1.2 0 c.slots.length,.ms p.2.1.1 p.2.1.2 0 c.stack.length,.ms p.2.2.1 p.2.2.2 0 c.values.length,.int .i64 (if c.mark=3\/c.mark=5 then mvI (kpC m) c.other else c.other),.bool c.retry]:=fun p=>by simp[cR,mvC,mvV]
    simp only[hmk] at hsn0
    generalize nOg de LC px=T0 at hob0 |-
    unfold aq.tw cR at c2
    repeat' (first|refine H_ 34 ?_|(refine am ?_;intro ss bb)|refine ac ?_|((with_reducible apply aB);rfl;kernel_rfl;(repeat (first|exact ay.nil|((with_reducible apply ay.cons);rfl)));exact hG;exact c2;exact .nil _;intro q0 hq0;refine aT (objs':=(q0.1.1,q0.1.2,.row 3 (c.slots.map (ab.tw 0)))::(q0.2.1.1,q0.2.1.2,.row 3 (c.stack.map (ab.tw 0)))::(q0.2.2.1,q0.2.2.2,.row 3 (c.values.map (ab.tw 0)))::(s7,b7,_)::_) rfl ?_)|refine ad hG hst (x1) ?_|refine ad hG hst (x2) ?_|refine ad hG hst (x3) ?_)
    refine⟨?_⟩
    generalize ss=s9;generalize bb=b9
    by_cases h3:c.mark=3
    ·have x4:=hix c.other (by have:=(g4 (.inl h3)).2;omega)
     rw[if_pos (.inl h3)] at hsn0
     repeat' (first|refine H_ 38 ?_|refine ac ?_|refine ad hG hst (x4) ?_|refine ad hG hst (x5) ?_|((with_reducible apply cB);rfl;kernel_rfl;exact hG;exact hst;exact x6;((repeat (first|exact bD.nil|((with_reducible apply bD.cons);rfl;(first|with_reducible exact bG.same _|((with_reducible apply bG.msAll);(repeat (first|with_reducible exact mh|with_reducible refine mt ?_));(first|with_reducible assumption|exact aw _|exact ae _|exact av _|exact Ze _|assumption|rfl))|((with_reducible apply bH);(repeat (first|with_reducible exact mh|with_reducible refine mt ?_));(first|with_reducible assumption|exact aw _|exact ae _|exact av _|exact Ze _|assumption|rfl))|((with_reducible apply bG.cut);exact bG.cp0 _ _;rfl))))));exact n6;intro p1 _;refine bF ?_))
     refine⟨?_⟩
     rename_i p1 hp1
     repeat' (first|refine H_ 39 ?_|refine ac ?_|((with_reducible apply cB);rfl;kernel_rfl;exact hG;exact hst;exact x7;((repeat (first|exact bD.nil|((with_reducible apply bD.cons);rfl;(first|with_reducible exact bG.same _|((with_reducible apply bG.msAll);(repeat (first|with_reducible exact mh|with_reducible refine mt ?_));(first|with_reducible assumption|exact aw _|exact ae _|exact av _|exact Ze _|assumption|rfl))|((with_reducible apply bH);(repeat (first|with_reducible exact mh|with_reducible refine mt ?_));(first|with_reducible assumption|exact aw _|exact ae _|exact av _|exact Ze _|assumption|rfl))|((with_reducible apply bG.cut);exact bG.cp0 _ _;rfl))))));exact n7;intro p2 _;refine bF ?_))
     refine⟨?_⟩
     rename_i p2 hp2
     repeat' (first|refine W_ ?_|refine ac ?_|((with_reducible apply cB);rfl;kernel_rfl;exact hG;exact hst;exact x8;((repeat (first|exact bD.nil|((with_reducible apply bD.cons);rfl;(first|with_reducible exact bG.same _|((with_reducible apply bG.msAll);(repeat (first|with_reducible exact mh|with_reducible refine mt ?_));(first|with_reducible assumption|exact aw _|exact ae _|exact av _|exact Ze _|assumption|rfl))|((with_reducible apply bH);(repeat (first|with_reducible exact mh|with_reducible refine mt ?_));(first|with_reducible assumption|exact aw _|exact ae _|exact av _|exact Ze _|assumption|rfl))|((with_reducible apply bG.cut);exact bG.cp0 _ _;rfl))))));exact n8;intro p3 _;refine bF ?_))
     rename_i p3 hp3
     have hsn:=hsn0 (p1,p2,p3)
     have hob:=hob0 (p1,p2,p3)
     repeat' (first|refine W_ ?_|refine cK ?_|refine ac ?_|((with_reducible apply bT);rfl;rfl;rfl;kernel_rfl;(repeat (first|with_reducible exact mh|with_reducible refine mt ?_));exact hln;exact(rfl:_=1);omega;exact hsn;(intro bq;(repeat (first|with_reducible exact Upd.head _|with_reducible apply Upd.tail)));intro bz))
     refine ag (i+1,bz,px++([(p1,p2,p3)]:List (Pl×Pl×Pl))) ⟨by dsimp only;omega,by dsimp only;rw[hsu,hln1,Zs,hpx];rfl⟩ (by dsimp only;omega) (.of _ nw_ od_ ?_)
     dsimp only
     rw[hsu,hln1,hob]
     exact pT _ _ _ _ _ _ _ _ _ _ _ T0 G3
    ·by_cases h5:c.mark=5
     ·have x4:=hix c.other (by have:=(g4 (.inr h5)).2;omega)
      rw[if_pos (.inr h5)] at hsn0
      repeat' (first|refine H_ 38 ?_|refine ac ?_|refine ad hG hst (x4) ?_|refine ad hG hst (x5) ?_|((with_reducible apply cB);rfl;kernel_rfl;exact hG;exact hst;exact x6;((repeat (first|exact bD.nil|((with_reducible apply bD.cons);rfl;(first|with_reducible exact bG.same _|((with_reducible apply bG.msAll);(repeat (first|with_reducible exact mh|with_reducible refine mt ?_));(first|with_reducible assumption|exact aw _|exact ae _|exact av _|exact Ze _|assumption|rfl))|((with_reducible apply bH);(repeat (first|with_reducible exact mh|with_reducible refine mt ?_));(first|with_reducible assumption|exact aw _|exact ae _|exact av _|exact Ze _|assumption|rfl))|((with_reducible apply bG.cut);exact bG.cp0 _ _;rfl))))));exact n6;intro p1 _;refine bF ?_))
      refine⟨?_⟩
      rename_i p1 hp1
      repeat' (first|refine H_ 39 ?_|refine ac ?_|((with_reducible apply cB);rfl;kernel_rfl;exact hG;exact hst;exact x7;((repeat (first|exact bD.nil|((with_reducible apply bD.cons);rfl;(first|with_reducible exact bG.same _|((with_reducible apply bG.msAll);(repeat (first|with_reducible exact mh|with_reducible refine mt ?_));(first|with_reducible assumption|exact aw _|exact ae _|exact av _|exact Ze _|assumption|rfl))|((with_reducible apply bH);(repeat (first|with_reducible exact mh|with_reducible refine mt ?_));(first|with_reducible assumption|exact aw _|exact ae _|exact av _|exact Ze _|assumption|rfl))|((with_reducible apply bG.cut);exact bG.cp0 _ _;rfl))))));exact n7;intro p2 _;refine bF ?_))
      refine⟨?_⟩
      rename_i p2 hp2
      repeat' (first|refine W_ ?_|refine ac ?_|((with_reducible apply cB);rfl;kernel_rfl;exact hG;exact hst;exact x8;((repeat (first|exact bD.nil|((with_reducible apply bD.cons);rfl;(first|with_reducible exact bG.same _|((with_reducible apply bG.msAll);(repeat (first|with_reducible exact mh|with_reducible refine mt ?_));(first|with_reducible assumption|exact aw _|exact ae _|exact av _|exact Ze _|assumption|rfl))|((with_reducible apply bH);(repeat (first|with_reducible exact mh|with_reducible refine mt ?_));(first|with_reducible assumption|exact aw _|exact ae _|exact av _|exact Ze _|assumption|rfl))|((with_reducible apply bG.cut);exact bG.cp0 _ _;rfl))))));exact n8;intro p3 _;refine bF ?_))
      rename_i p3 hp3
      have hsn:=hsn0 (p1,p2,p3)
      have hob:=hob0 (p1,p2,p3)
      repeat' (first|refine W_ ?_|refine cK ?_|refine ac ?_|((with_reducible apply bT);rfl;rfl;rfl;kernel_rfl;(repeat (first|with_reducible exact mh|with_reducible refine mt ?_));exact hln;exact(rfl:_=1);omega;exact hsn;(intro bq;(repeat (first|with_reducible exact Upd.head _|with_reducible apply Upd.tail)));intro bz))
      refine ag (i+1,bz,px++([(p1,p2,p3)]:List (Pl×Pl×Pl))) ⟨by dsimp only;omega,by dsimp only;rw[hsu,hln1,Zs,hpx];rfl⟩ (by dsimp only;omega) (.of _ nw_ od_ ?_)
      dsimp only
      rw[hsu,hln1,hob]
      exact pT _ _ _ _ _ _ _ _ _ _ _ T0 G3
     ·rw[if_neg (fun h=>h.elim h3 h5)] at hsn0
      repeat' (first|refine H_ 38 ?_|refine ac ?_|refine ad hG hst (x5) ?_|((with_reducible apply cB);rfl;kernel_rfl;exact hG;exact hst;exact x6;((repeat (first|exact bD.nil|((with_reducible apply bD.cons);rfl;(first|with_reducible exact bG.same _|((with_reducible apply bG.msAll);(repeat (first|with_reducible exact mh|with_reducible refine mt ?_));(first|with_reducible assumption|exact aw _|exact ae _|exact av _|exact Ze _|assumption|rfl))|((with_reducible apply bH);(repeat (first|with_reducible exact mh|with_reducible refine mt ?_));(first|with_reducible assumption|exact aw _|exact ae _|exact av _|exact Ze _|assumption|rfl))|((with_reducible apply bG.cut);exact bG.cp0 _ _;rfl))))));exact n6;intro p1 _;refine bF ?_))
      refine⟨?_⟩
      rename_i p1 hp1
      repeat' (first|refine H_ 39 ?_|refine ac ?_|((with_reducible apply cB);rfl;kernel_rfl;exact hG;exact hst;exact x7;((repeat (first|exact bD.nil|((with_reducible apply bD.cons);rfl;(first|with_reducible exact bG.same _|((with_reducible apply bG.msAll);(repeat (first|with_reducible exact mh|with_reducible refine mt ?_));(first|with_reducible assumption|exact aw _|exact ae _|exact av _|exact Ze _|assumption|rfl))|((with_reducible apply bH);(repeat (first|with_reducible exact mh|with_reducible refine mt ?_));(first|with_reducible assumption|exact aw _|exact ae _|exact av _|exact Ze _|assumption|rfl))|((with_reducible apply bG.cut);exact bG.cp0 _ _;rfl))))));exact n7;intro p2 _;refine bF ?_))
      refine⟨?_⟩
      rename_i p2 hp2
      repeat' (first|refine W_ ?_|refine ac ?_|((with_reducible apply cB);rfl;kernel_rfl;exact hG;exact hst;exact x8;((repeat (first|exact bD.nil|((with_reducible apply bD.cons);rfl;(first|with_reducible exact bG.same _|((with_reducible apply bG.msAll);(repeat (first|with_reducible exact mh|with_reducible refine mt ?_));(first|with_reducible assumption|exact aw _|exact ae _|exact av _|exact Ze _|assumption|rfl))|((with_reducible apply bH);(repeat (first|with_reducible exact mh|with_reducible refine mt ?_));(first|with_reducible assumption|exact aw _|exact ae _|exact av _|exact Ze _|assumption|rfl))|((with_reducible apply bG.cut);exact bG.cp0 _ _;rfl))))));exact n8;intro p3 _;refine bF ?_))
      rename_i p3 hp3
      have hsn:=hsn0 (p1,p2,p3)
      have hob:=hob0 (p1,p2,p3)
      repeat' (first|refine W_ ?_|refine cK ?_|refine ac ?_|((with_reducible apply bT);rfl;rfl;rfl;kernel_rfl;(repeat (first|with_reducible exact mh|with_reducible refine mt ?_));exact hln;exact(rfl:_=1);omega;exact hsn;(intro bq;(repeat (first|with_reducible exact Upd.head _|with_reducible apply Upd.tail)));intro bz))
      refine ag (i+1,bz,px++([(p1,p2,p3)]:List (Pl×Pl×Pl))) ⟨by dsimp only;omega,by dsimp only;rw[hsu,hln1,Zs,hpx];rfl⟩ (by dsimp only;omega) (.of _ nw_ od_ ?_)
      dsimp only
      rw[hsu,hln1,hob]
      exact pT _ _ _ _ _ _ _ _ _ _ _ T0 G3
  | false =>
    rw[hk] at hkr hke
    have hsu:lV m (i+1)=lV m i:=aal hoe hke
    repeat' refine W_ ?_
    refine ag (i+1,bx,px) ⟨by dsimp only;omega,by dsimp only;rw[hsu];exact hpx⟩ (by dsimp only;omega) (.of _ nw_ od_ ?_)
    dsimp only
    rw[hsu]
    exact .refl _
 obtain rfl:i=m.contexts.length:=by omega
 obtain⟨LC,hLC⟩:∃LC,LC=lV m m.contexts.length:=⟨_,rfl⟩
 rw[<- hLC] at hpx |-
 obtain⟨NX,hNX⟩:∃NX:aJ,NX=nOg de LC px:=⟨_,rfl⟩
 rw[<- hNX,hG3]
 refine aV (acv _ _ _ _ _ _ _ _ _ _ _ _ NX NO S0) ?_
 obtain⟨G4,hG4⟩:∃G4:aJ,G4=(so,bo,.row 4 (nRg cu LO ps))::(sb,bk,.row 6 (LB.map (ap.tw 0)))::(sx,bx,.row 14 (nRg cR LC px))::(q.1.1,q.1.2,.row 1 (bR (ar m).o))::(q.2.1.1,q.2.1.2,.row 1 (bR (ar m).b))::(q.2.2.1.1,q.2.2.1.2,.row 1 (bR (ar m).c))::(z.1,z.2,.row 3 (L.map (ab.tw 0)))::(s2,b2,.box ah.tz)::(NX++(NO++S0)):=⟨_,rfl⟩
 rw[<- hG4]
 have xv:=hmv1 m.value hN.val
 repeat' (first|refine W_ ?_|refine ac ?_|refine ad hG hst (xv) ?_)
 apply aj (X:=Nat) [0,2,3,4,5,6,7,1000000] (fun i=>[(16,.int .i64 (i:Int))])
   (fun i=>(s7,b7,.box (bxC m y (.ms so bo 0 LO.length) (.ms sb bk 0 LB.length) (.ms sx bx 0 LC.length) (mvN (kpO m) (kpB m) m.value.kind m.value.number)))::(y.2.2.2.2.1.1,y.2.2.2.2.1.2,.row 2 ((nj m i).map (ao.tw 0)))::(s3,b3,.box [.ms q.1.1 q.1.2 0 (ar m).o.length,.ms q.2.1.1 q.2.1.2 0 (ar m).b.length,.ms q.2.2.1.1 q.2.2.1.2 0 (ar m).c.length,.ms q.2.2.2.1 q.2.2.2.2 0 (ar m).p.length,.ms z.1 z.2 0 L.length])::(q.2.2.2.1,q.2.2.2.2,.row 1 (bR (ar m).p))::G4)
   (fun i=>i<=m.processes.length) (fun i=>m.processes.length - i) 0 (Zd _)
 exact kp_;exact nw_
 ·rw[uf];exact .refl _
 intro i hi
 try dsimp only
 unfold bxC
 have hpl:((nj m i).map (ao.tw 0)).length=m.processes.length:=by rw[Ze,nG]
 by_cases hlt:i<m.processes.length
 ·have hkr:=fe (l:=(ar m).p) (n:=i) (by omega)
  have hke:=Za (l:=(ar m).p) (i:=i) (by omega)
  have hoe:=Za hlt
  have hra:(m.processes.map (ao.tw lo))[i]?=some (m.processes[i].tw lo):=aK hlt
  have hrb:((nj m i).map (ao.tw 0))[i]?=some (m.processes[i].tw 0):=by rw[Zp];unfold nj;rw[zj _ _ hlt];rfl
  have hset:=zb (kpC m) (ar m).p hlt
  have hol:=ao.len lo m.processes
  have hat:=fun h=>agN hP hF (i:=i) h hoe
  rw[show (m.processes[i]).tw lo=[.int .i64 m.processes[i].at_,.bool m.processes[i].main] from rfl] at hra
  rw[show (m.processes[i]).tw 0=[.int .i64 m.processes[i].at_,.bool m.processes[i].main] from rfl] at hrb
  cases hk:(ar m).p[i]'(by omega) with
  | true =>
    rw[hk] at hkr hke
    obtain⟨h0,h1⟩:=hat hke
    obtain⟨u,hu1,hu2,hu3⟩:=wL (c:=kpC m) h0 (by rw[hkc];exact h1)
    have hse:((nj m i).map (ao.tw 0)).set i [.int .i64 (mvI (kpC m) m.processes[i].at_),.bool m.processes[i].main]=(nj m (i+1)).map (ao.tw 0):=by
      unfold nj
      rw[<- hset,Ys]
      unfold mvP
      rw[if_pos hke];rfl
    generalize m.processes[i]=c at hra hrb hu1 hu3 hse
    rw[hu1] at hra hrb
    repeat' (first|refine W_ ?_|((with_reducible apply dI (id:=46) 16);kernel_rfl;kernel_rfl;kernel_rfl;(repeat (first|exact Cut.zero _|apply Cut.succ)))|with_reducible refine eu (by kernel_rfl) (by kernel_rfl) ?_|with_reducible refine gu ?_|with_reducible refine ei ?_|with_reducible refine ek rfl ?_|refine gw rfl rfl rfl rr_ ?_|refine et rfl rfl rfl rr_ rfl rfl rfl ?_|refine dr rfl rfl rfl rr_ rfl rfl ?_|(refine ks rfl rfl rfl rr_ dd_ ?_)|(refine ky rfl rfl rfl rr_ dd_ ?_)|(refine cA rfl rfl rfl rr_ (fun hg=>?_) (fun hg=>?_))|(refine bX rfl rfl rfl rr_ (fun hg=>?_) (fun hg=>?_))|((with_reducible apply d_y);exact y_;rfl)|refine bm ?_)
    refine ag (i+1) (by omega) (by omega) (.of _ nw_ od_ ?_)
    try dsimp only
    rw[<- hse]
    exact .refl _
  | false =>
    rw[hk] at hkr hke
    have hse:((nj m i).map (ao.tw 0)).set i [.int .i64 (-1),.bool m.processes[i].main]=(nj m (i+1)).map (ao.tw 0):=by
      unfold nj
      rw[<- hset,Ys]
      unfold mvP
      rw[if_neg (by rw[hke];simp)];rfl
    generalize m.processes[i]=c at hra hrb hse
    repeat' (first|refine W_ ?_|refine bm ?_)
    refine ag (i+1) (by omega) (by omega) (.of _ nw_ od_ ?_)
    try dsimp only
    rw[<- hse]
    exact .refl _
 obtain rfl:i=m.processes.length:=by omega
 rw[hG4]
 repeat' (first|refine W_ ?_|refine ac ?_)
 rw[hNX,hNO,hS0]
 obtain⟨hcb,⟨hpc,_⟩,_⟩:=hy
 refine aD (t1:=.agg [.ms y.1.1.1.1 y.1.1.1.2 0 m.base.classes.length,.ms y.1.2.1.1.1 y.1.2.1.1.2 0 m.base.codes.length,.ms y.1.2.2.1 y.1.2.2.2 0 m.base.entries.length,.int .i64 m.base.main,.ms y.2.1.1.1.1 y.2.1.1.1.2 0 m.store.classes.length,.ms so bo 0 LO.length,.ms y.2.1.2.2.1 y.2.1.2.2.2 0 m.store.output.length,.int .i64 m.store.ticks,.int .i64 m.store.budget,.int .i64 m.store.made,.ms sb bk 0 LB.length,.ms sx bx 0 LC.length,.ms y.2.2.2.2.1.1 y.2.2.2.2.1.2 0 m.processes.length,.ms y.2.2.2.2.2.1 y.2.2.2.2.2.2 0 m.ready.length,.int .i64 m.now,.int .i64 m.status,.int .i64 m.value.kind,.int .i64 (mvN (kpO m) (kpB m) m.value.kind m.value.number),.str m.value.text,.str m.fault]) x_ rfl (y.1,(y.2.1.1,((so,bo),ps),y.2.1.2.2),(sb,bk),((sx,bx),px),y.2.2.2.2) ⟨hcb,⟨hpc, ?_⟩, ?_⟩ rfl (.app _ R) ?_ (.cell _ _ _ _ _ rfl (by repeat (first|(with_reducible exact Zi)|apply Zg)) (by kernel_rfl) (by kernel_rfl) (by kernel_rfl)) ?_
 ·show ps.length=(mg m m.store.objects.length).length
  rw[<- hLO];exact hps
 ·show px.length=(lV m m.contexts.length).length
  rw[<- hLC];exact hpx
 ·rw[rE,<- hLO,<- hLB,<- hLC]
  have h:=adC (s7,b7,.box (bxC m y (.ms so bo 0 LO.length) (.ms sb bk 0 LB.length) (.ms sx bx 0 LC.length) (mvN (kpO m) (kpB m) m.value.kind m.value.number))) (y.2.2.2.2.1.1,y.2.2.2.2.1.2,.row 2 ((nj m m.processes.length).map (ao.tw 0))) (s3,b3,.box [.ms q.1.1 q.1.2 0 (ar m).o.length,.ms q.2.1.1 q.2.1.2 0 (ar m).b.length,.ms q.2.2.1.1 q.2.2.1.2 0 (ar m).c.length,.ms q.2.2.2.1 q.2.2.2.2 0 (ar m).p.length,.ms z.1 z.2 0 L.length]) (q.2.2.2.1,q.2.2.2.2,.row 1 (bR (ar m).p)) (so,bo,.row 4 (nRg cu LO ps)) (sb,bk,.row 6 (LB.map (ap.tw 0))) (sx,bx,.row 14 (nRg cR LC px)) (q.1.1,q.1.2,.row 1 (bR (ar m).o)) (q.2.1.1,q.2.1.2,.row 1 (bR (ar m).b)) (q.2.2.1.1,q.2.2.1.2,.row 1 (bR (ar m).c)) (z.1,z.2,.row 3 (L.map (ab.tw 0))) (s2,b2,aW.box (bxC m y (.ms so bo 0 LO.length) (.ms sb bk 0 LB.length) (.ms sx bx 0 LC.length) (mvN (kpO m) (kpB m) m.value.kind m.value.number))) (y.2.1.2.2.1,y.2.1.2.2.2,aW.row 1 (bQ m.store.output)) (y.2.2.2.2.2.1,y.2.2.2.2.2.2,aW.row 1 (aL m.ready)) (nOg de LC px) (nOg cS LO ps) (cbO m.base y.1) (pV m.store.classes y.2.1.1) R
  simpa [imO,stO,ado,acX,bxC] using h
 ·rw[rE,<- hLO,<- hLB,<- hLC]
  simp[imC,nG,mvV]
end
theorem j2 (lo:Nat) (m:ah) (hsm:m.small 1048576):CtM Tryz.prog GL 26 [.agg (m.tw lo)] [] (imI (bw m)) (imO (bw m)) (fun y=>.tup [.agg (imC (bw m) y),.bool (eJ m)]):=by
 refine aA Tryz.func26 rfl Tryz.ntmps26 rfl rfl rfl fun w0 R gs objsR hG hR=>?_
 obtain rfl:=hR.inv0
 clear hR
 have hst:=d8
 have hct:=rL w0.heap.size lo m hsm
 unfold eJ
 cases hV:eD m with
 | false =>
   have hI:bw m=zIm:=by unfold bw;rw[if_neg (by rw[hV];simp)]
   rw[hI]
   rw[hV] at hct
   unfold ah.tw at hct |-
   repeat' (first|refine W_ ?_|refine aN ?_|(refine am ?_;intro ss bb)|refine fg ?_|refine ac ?_|refine ad hG hst (hct) ?_)
   refine aa7 fun y hy=>?_
   exact cW (t1:=.agg (imC zIm y)) (t2:=.bool false) x_ rfl y hy rfl (.app _ R) (.drop (.refl _)) (.cell _ _ _ _ _ rfl mm_ (by kernel_rfl) (by kernel_rfl) (by kernel_rfl)) (.tmp _ _ rfl) rfl
 | true =>
   have hI:bw m=adF m:=by unfold bw;rw[if_pos hV]
   rw[hI]
   have hcl:=vC hst w0.heap.size lo m hsm (ahI hV) (ahg hV)
   rw[hV] at hct
   unfold ah.tw at hct hcl |-
   unfold imC at hcl
   repeat' (first|refine W_ ?_|refine aN ?_|(refine am ?_;intro ss bb)|refine ac ?_|refine ad hG hst (hct) ?_|((with_reducible apply aB);rfl;kernel_rfl;(repeat (first|exact ay.nil|((with_reducible apply ay.cons);rfl)));exact hG;exact hcl;exact .nil _;intro y hy;refine cT (oW _ _ _) ?_))
   exact cW (t1:=.agg (imC (adF m) y)) (t2:=.bool true) x_ rfl y hy rfl (.app _ R) (.drop (.refl _)) (.cell _ _ _ _ _ rfl Zi (by kernel_rfl) (by kernel_rfl) (by kernel_rfl)) (.tmp _ _ rfl) rfl
theorem adg (b6 b5 qo qb qc qp bx out bo pr rd tz:Nat×Nat×aW) (CB CL OO XX R:aJ):bW (bx::b5::b6::qo::qb::qc::qp::tz::pr::(CB++(CL++out::rd::R))) (b6::b5::qo::qb::qc::qp::bx::(CB++(CL++(OO++out::bo::(XX++pr::rd::tz::R))))):=.trans (.sub (show List.Sublist (bx::b5::b6::qo::qb::qc::qp::tz::pr::(CB++(CL++out::rd::R))) ((OO++bo::(XX++bx::b5::b6::qo::qb::qc::qp::tz::pr::(CB++(CL++out::rd::R))))) from by
 have h:=Ye ((OO++bo::XX)) (bx::b5::b6::qo::qb::qc::qp::tz::pr::(CB++(CL++out::rd::R)))
 simpa using h)) (.perm (by
 have h:=ce (n:=17) [[b6],[b5],[qo],[qb],[qc],[qp],[bx],CB,CL,OO,[out],[bo],XX,[pr],[rd],[tz],R] [9,11,12,6,1,0,2,3,4,5,15,13,7,8,10,14,16] rfl (by decide)
 exact(show ((OO++bo::(XX++bx::b5::b6::qo::qb::qc::qp::tz::pr::(CB++(CL++out::rd::R))))).Perm (b6::b5::qo::qb::qc::qp::bx::(CB++(CL++(OO++out::bo::(XX++pr::rd::tz::R))))) from by simpa using h)))
theorem adt (bx rx rb ro b5 b6 qo qb qc qp tz pr:Nat×Nat×aW) (S:aJ):bW (bx::ro::b5::qo::b6::rb::rx::pr::qb::qc::qp::tz::S) (bx::rx::rb::ro::b5::b6::qo::qb::qc::qp::tz::pr::S):=(.perm (by
 have h:=ce (n:=13) [[bx],[rx],[rb],[ro],[b5],[b6],[qo],[qb],[qc],[qp],[tz],[pr],S] [0,3,4,6,5,2,1,11,7,8,9,10,12] rfl (by decide)
 exact(show (bx::ro::b5::qo::b6::rb::rx::pr::qb::qc::qp::tz::S).Perm (bx::rx::rb::ro::b5::b6::qo::qb::qc::qp::tz::pr::S) from by simpa using h)))
theorem adG (p q1 q2 x9 bx ro b5 qo b6:Nat×Nat×aW) (T G:aJ):bW (bx::ro::b5::qo::b6::(T++p::q2::G)) (p::q1::q2::x9::bx::ro::b5::qo::b6::(T++G)):=.trans (.sub (show List.Sublist (bx::ro::b5::qo::b6::(T++p::q2::G)) (q1::x9::bx::ro::b5::qo::b6::(T++p::q2::G)) from by
 have h:=Ye (q1::[x9]) (bx::ro::b5::qo::b6::(T++p::q2::G))
 simpa using h)) (.perm (by
 have h:=ce (n:=11) [[p],[q1],[q2],[x9],[bx],[ro],[b5],[qo],[b6],T,G] [1,3,4,5,6,7,8,9,0,2,10] rfl (by decide)
 exact(show (q1::x9::bx::ro::b5::qo::b6::(T++p::q2::G)).Perm (p::q1::q2::x9::bx::ro::b5::qo::b6::(T++G)) from by simpa using h)))
theorem abH (bx ro b5 qo b6 rb rx pr qb qc qp tz:Nat×Nat×aW) (NO S:aJ):bW (bx::rb::b5::qb::b6::ro::rx::pr::qo::qc::qp::tz::(NO++S)) (bx::ro::b5::qo::b6::(NO++rb::rx::pr::qb::qc::qp::tz::S)):=(.perm (by
 have h:=ce (n:=14) [[bx],[ro],[b5],[qo],[b6],NO,[rb],[rx],[pr],[qb],[qc],[qp],[tz],S] [0,6,2,9,4,1,7,8,3,10,11,12,5,13] rfl (by decide)
 exact(show (bx::rb::b5::qb::b6::ro::rx::pr::qo::qc::qp::tz::(NO++S)).Perm (bx::ro::b5::qo::b6::(NO++rb::rx::pr::qb::qc::qp::tz::S)) from by simpa using h)))
theorem acc (bx rb b5 qb b6 ro rx pr qo qc qp tz:Nat×Nat×aW) (NO S:aJ):bW (bx::rx::b5::qc::b6::ro::rb::pr::qo::qb::qp::tz::(NO++S)) (bx::rb::b5::qb::b6::ro::rx::pr::qo::qc::qp::tz::(NO++S)):=(.perm (by
 have h:=ce (n:=14) [[bx],[rb],[b5],[qb],[b6],[ro],[rx],[pr],[qo],[qc],[qp],[tz],NO,S] [0,6,2,9,4,5,1,7,8,3,10,11,12,13] rfl (by decide)
 exact(show (bx::rx::b5::qc::b6::ro::rb::pr::qo::qb::qp::tz::(NO++S)).Perm (bx::rb::b5::qb::b6::ro::rx::pr::qo::qc::qp::tz::(NO++S)) from by simpa using h)))
theorem aem (vl sk sl x bx rx b5 qc b6:Nat×Nat×aW) (T G:aJ):bW (bx::rx::b5::qc::b6::(T++sl::sk::vl::G)) (vl::sk::sl::x::bx::rx::b5::qc::b6::(T++G)):=.trans (.sub (show List.Sublist (bx::rx::b5::qc::b6::(T++sl::sk::vl::G)) (x::bx::rx::b5::qc::b6::(T++sl::sk::vl::G)) from by
 have h:=Ye ([x]) (bx::rx::b5::qc::b6::(T++sl::sk::vl::G))
 simpa using h)) (.perm (by
 have h:=ce (n:=11) [[vl],[sk],[sl],[x],[bx],[rx],[b5],[qc],[b6],T,G] [3,4,5,6,7,8,9,2,1,0,10] rfl (by decide)
 exact(show (x::bx::rx::b5::qc::b6::(T++sl::sk::vl::G)).Perm (vl::sk::sl::x::bx::rx::b5::qc::b6::(T++G)) from by simpa using h)))
theorem ac0 (bx rx b5 qc b6 ro rb pr qo qb qp tz:Nat×Nat×aW) (NX NO S:aJ):bW (bx::pr::b5::qp::b6::ro::rb::rx::qo::qb::qc::tz::(NX++(NO++S))) (bx::rx::b5::qc::b6::(NX++ro::rb::pr::qo::qb::qp::tz::(NO++S))):=(.perm (by
 have h:=ce (n:=15) [[bx],[rx],[b5],[qc],[b6],NX,[ro],[rb],[pr],[qo],[qb],[qp],[tz],NO,S] [0,8,2,11,4,6,7,1,9,10,3,12,5,13,14] rfl (by decide)
 exact(show (bx::pr::b5::qp::b6::ro::rb::rx::qo::qb::qc::tz::(NX++(NO++S))).Perm (bx::rx::b5::qc::b6::(NX++ro::rb::pr::qo::qb::qp::tz::(NO++S))) from by simpa using h)))
theorem adk (bx pr b5 qp b6 ro rb rx qo qb qc tz out rd:Nat×Nat×aW) (NX NO CB CL R:aJ):bW ((CB++(CL++ro::(NO++out::rb::rx::(NX++pr::rd::R))))) (bx::pr::b5::qp::b6::ro::rb::rx::qo::qb::qc::tz::(NX++(NO++(CB++(CL++out::rd::R))))):=.trans (.sub (show List.Sublist ((CB++(CL++ro::(NO++out::rb::rx::(NX++pr::rd::R))))) (bx::b5::qp::b6::qo::qb::qc::tz::(CB++(CL++ro::(NO++out::rb::rx::(NX++pr::rd::R))))) from by
 have h:=Ye (bx::b5::qp::b6::qo::qb::qc::[tz]) ((CB++(CL++ro::(NO++out::rb::rx::(NX++pr::rd::R)))))
 simpa using h)) (.perm (by
 have h:=ce (n:=19) [[bx],[pr],[b5],[qp],[b6],[ro],[rb],[rx],[qo],[qb],[qc],[tz],NX,NO,CB,CL,[out],[rd],R] [0,2,3,4,8,9,10,11,14,15,5,13,16,6,7,12,1,17,18] rfl (by decide)
 exact(show (bx::b5::qp::b6::qo::qb::qc::tz::(CB++(CL++ro::(NO++out::rb::rx::(NX++pr::rd::R))))).Perm (bx::pr::b5::qp::b6::ro::rb::rx::qo::qb::qc::tz::(NX++(NO++(CB++(CL++out::rd::R))))) from by simpa using h)))
theorem pQ (p q1 q2 x9 bx ro b5 qo b6:Nat×Nat×aW) (T G:aJ):bW (bx::ro::b5::qo::b6::((T++[p,q2])++G)) (p::q1::q2::x9::bx::ro::b5::qo::b6::(T++G)):=by
 have h:=adG p q1 q2 x9 bx ro b5 qo b6 T G
 simpa using h
theorem vL (vl sk sl x bx rx b5 qc b6:Nat×Nat×aW) (T G:aJ):bW (bx::rx::b5::qc::b6::((T++[sl,sk,vl])++G)) (vl::sk::sl::x::bx::rx::b5::qc::b6::(T++G)):=by
 have h:=aem vl sk sl x bx rx b5 qc b6 T G
 simpa using h
noncomputable def b5C (m:ah) (f lo:Nat) (q:Rp):List TV:=[.cp f [.sl lo 3 (m.base.classes.map (aa.tw lo)),.sl lo 4 (m.base.codes.map (aH.tw lo)),.sl lo 4 (m.base.entries.map (aF.tw lo)),.int .i64 m.base.main,.sl lo 3 (m.store.classes.map (aa.tw lo)),.sl lo 4 (m.store.objects.map (az.tw lo)),.sl lo 1 (bQ m.store.output),.int .i64 m.store.ticks,.int .i64 m.store.budget,.int .i64 m.store.made,.sl lo 6 (m.blocks.map (ap.tw lo)),.sl lo 14 (m.contexts.map (aq.tw lo)),.sl lo 2 (m.processes.map (ao.tw lo)),.sl lo 1 (aL m.ready),.int .i64 m.now,.int .i64 m.status,.int .i64 m.value.kind,.int .i64 m.value.number,.str m.value.text,.str m.fault],.ms q.1.1 q.1.2 0 (ar m).o.length,.ms q.2.1.1 q.2.1.2 0 (ar m).b.length,.ms q.2.2.1.1 q.2.2.1.2 0 (ar m).c.length,.ms q.2.2.2.1 q.2.2.2.2 0 (ar m).p.length]
theorem fU (lo:Nat) (m:ah) (hsm:m.small 1048576):CtM Tryz.prog GL 27 [.agg (m.tw lo)] [] (imI (bw m)) (imO (bw m)) (fun y=>.tup [.agg (imC (bw m) y),.bool (eJ m)]):=by
 refine aA Tryz.func27 rfl Tryz.ntmps27 rfl rfl rfl fun w0 R gs objsR hG hR=>?_
 obtain rfl:=hR.inv0
 clear hR
 have hst:=d8
 have hct:=qm lo m hsm
 unfold eJ
 cases hV:eD m with
 | false =>
   have hI:bw m=zIm:=by unfold bw;rw[if_neg (by rw[hV];simp)]
   rw[hI]
   rw[hV] at hct
   unfold ah.tw at hct |-
   repeat' (first|refine W_ ?_|refine aN ?_|(refine am ?_;intro ss bb)|refine fg ?_|refine ac ?_|refine ad hG hst (hct) ?_)
   refine aa7 fun y hy=>?_
   exact cW (t1:=.agg (imC zIm y)) (t2:=.bool false) x_ rfl y hy rfl (.app _ R) (.drop (.refl _)) (.cell _ _ _ _ _ rfl mm_ (by kernel_rfl) (by kernel_rfl) (by kernel_rfl)) (.tmp _ _ rfl) rfl
 | true =>
 have hI:bw m=adF m:=by unfold bw;rw[if_pos hV]
 rw[hI]
 rw[hV] at hct
 have hN:=ahI hV
 have hcp:=mf hst lo m hsm
 have c1:=afc (f:=w0.heap.size) (lo:=lo) hst hN hsm
 unfold rcO at c1
 unfold ah.tw at hct c1 hcp |-
 unfold imC at hcp
 repeat' (first|refine H_ 5 ?_|refine aN ?_|(refine am ?_;intro ss bb)|refine ac ?_|refine ad hG hst (hct) ?_|((with_reducible apply aB);rfl;kernel_rfl;(repeat (first|exact ay.nil|((with_reducible apply ay.cons);rfl)));exact hG;exact hcp;exact .nil _;intro y hy)|((with_reducible apply aB);rfl;kernel_rfl;(repeat (first|exact ay.nil|((with_reducible apply ay.cons);rfl)));exact hG;exact c1;exact .nil _;rintro ⟨⟨s5,b5⟩,q⟩ hF;refine aT (objs':=(s5,b5,_)::(q.1.1,q.1.2,_)::(q.2.1.1,q.2.1.2,_)::(q.2.2.1.1,q.2.2.1.2,_)::(q.2.2.2.1,q.2.2.2.2,_)::_::_) rfl ?_))
 refine⟨?_⟩
 dsimp only
 rename_i s2 b2
 generalize ss=s7;generalize bb=b7
 obtain⟨f1,f2,f3,f4⟩:=hF.fits
 have z1:=hsm.2.1.2.1.1
 have z2:=hsm.2.2.1.1
 have z3:=hsm.2.2.2.1.1
 have z4:=hsm.2.2.2.2.1.1
 have k1:=ff (ar m).o
 have k2:=ff (ar m).b
 have k3:=ff (ar m).c
 have k4:=ff (ar m).p
 have p1:=sY hst 0 (ar m).o (by omega)
 have p2:=sY hst 0 (ar m).b (by omega)
 have p3:=sY hst 0 (ar m).c (by omega)
 repeat' (first|refine W_ ?_|((with_reducible apply dv (id:=5) 17);kernel_rfl;kernel_rfl;kernel_rfl;rfl;(repeat (first|exact Cut.zero _|apply Cut.succ)))|((with_reducible apply m_q);exact ym_;rfl;exact eh)|((with_reducible apply cr);rfl;(intro p;try dsimp only);(repeat (first|exact TB.nil _|((with_reducible apply TB.cons);rfl;rfl;(first|exact .nil _|exact .put _ _ _ _ _ (.nil _)|exact .skip _ _ _ _ _ (.put _ _ _ _ _ (.nil _))|exact .skip _ _ _ _ _ (.skip _ _ _ _ _ (.put _ _ _ _ _ (.nil _)))|(repeat (first|exact .nil _|apply aY.put|apply aY.skip)));kernel_rfl)));rfl;kernel_rfl;kernel_rfl;exact eh)|((with_reducible apply gW);rfl;rfl;kernel_rfl)|((with_reducible apply iK hG hst p1);rfl;kernel_rfl;(focus (intro p;(repeat (first|exact bD.nil|((with_reducible apply bD.cons);rfl;(first|with_reducible exact bG.same _|((with_reducible apply bG.msAll);(repeat (first|with_reducible exact mh|with_reducible refine mt ?_));(first|with_reducible assumption|exact aw _|exact ae _|exact av _|exact Ze _|assumption|rfl))|((with_reducible apply bH);(repeat (first|with_reducible exact mh|with_reducible refine mt ?_));(first|with_reducible assumption|exact aw _|exact ae _|exact av _|exact Ze _|assumption|rfl))|((with_reducible apply bG.cut);exact bG.cp0 _ _;rfl)))));done)))|((with_reducible apply iK hG hst p2);rfl;kernel_rfl;(focus (intro p;(repeat (first|exact bD.nil|((with_reducible apply bD.cons);rfl;(first|with_reducible exact bG.same _|((with_reducible apply bG.msAll);(repeat (first|with_reducible exact mh|with_reducible refine mt ?_));(first|with_reducible assumption|exact aw _|exact ae _|exact av _|exact Ze _|assumption|rfl))|((with_reducible apply bH);(repeat (first|with_reducible exact mh|with_reducible refine mt ?_));(first|with_reducible assumption|exact aw _|exact ae _|exact av _|exact Ze _|assumption|rfl))|((with_reducible apply bG.cut);exact bG.cp0 _ _;rfl)))));done)))|((with_reducible apply iK hG hst p3);rfl;kernel_rfl;(focus (intro p;(repeat (first|exact bD.nil|((with_reducible apply bD.cons);rfl;(first|with_reducible exact bG.same _|((with_reducible apply bG.msAll);(repeat (first|with_reducible exact mh|with_reducible refine mt ?_));(first|with_reducible assumption|exact aw _|exact ae _|exact av _|exact Ze _|assumption|rfl))|((with_reducible apply bH);(repeat (first|with_reducible exact mh|with_reducible refine mt ?_));(first|with_reducible assumption|exact aw _|exact ae _|exact av _|exact Ze _|assumption|rfl))|((with_reducible apply bG.cut);exact bG.cp0 _ _;rfl)))));done)))|(with_reducible refine DM.nil _ _ _ ?_))
 intro p hp
 clear hp
 refine aT (objs':=((p 16).a,(p 16).b,.box [.nils,.nils,.nils])::(s5,b5,_)::_) (by rw[show ed _=[_] from rfl];(try simp only[ZB,ZM,Zo,ZD,Zz]);(try rfl)) ?_
 dsimp only [Nat.reduceAdd]
 generalize Yu.a (p 16)=s6
 generalize Yu.b (p 16)=b6
 repeat' (first|refine H_ 7 ?_|refine ac ?_)
 refine⟨?_⟩
 have hkc:=abb hF
 have hcc:=ae (kpC m)
 have hix:=fun k (hk:k<((kpC m).length:Int))=>agX hst w0.heap.size w0.heap.size w0.heap.size (kpO m) (kpB m) (kpC m) k hk
 have hmv1:=fun(v:ab) (h:iP m v)=>aeC hst w0.heap.size w0.heap.size w0.heap.size (kpO m) (kpB m) (kpC m) v.kind v.number v.text (qH h hF).1 (qH h hF).2
 have hmvA:=fun(l0:Nat) (l:List ab) (hl:l.length<=1048576) (hv:∀v∈l,iP m v)=>ahz hst l0 w0.heap.size w0.heap.size w0.heap.size (kpO m) (kpB m) (kpC m) l hl fun v h=>qH (hv v h) hF
 have hkO:plc (ar m).o=kpO m:=rfl
 have hkB:plc (ar m).b=kpB m:=rfl
 have hkC:plc (ar m).c=kpC m:=rfl
 rw[hkO,hkB,hkC]
 clear p1 p2 p3 c1 hcp hct
 obtain⟨S0,hS0⟩:∃S0:aJ,S0=(cbO m.base y.1++(pV m.store.classes y.2.1.1++((y.2.1.2.2.1,y.2.1.2.2.2,.row 1 (bQ m.store.output))::(y.2.2.2.2.2.1,y.2.2.2.2.2.2,.row 1 (aL m.ready))::R))):=⟨_,rfl⟩
 refine aV (objs':=(s7,b7,.box [.ms y.1.1.1.1 y.1.1.1.2 0 m.base.classes.length,.ms y.1.2.1.1.1 y.1.2.1.1.2 0 m.base.codes.length,.ms y.1.2.2.1 y.1.2.2.2 0 m.base.entries.length,.int .i64 m.base.main,.ms y.2.1.1.1.1 y.2.1.1.1.2 0 m.store.classes.length,.nils,.ms y.2.1.2.2.1 y.2.1.2.2.2 0 m.store.output.length,.int .i64 m.store.ticks,.int .i64 m.store.budget,.int .i64 m.store.made,.nils,.nils,.ms y.2.2.2.2.1.1 y.2.2.2.2.1.2 0 m.processes.length,.ms y.2.2.2.2.2.1 y.2.2.2.2.2.2 0 m.ready.length,.int .i64 m.now,.int .i64 m.status,.int .i64 m.value.kind,.int .i64 (m.value.number),.str m.value.text,.str m.fault])::(s5,b5,.box (b5C m w0.heap.size lo q))::(s6,b6,.box [.sl w0.heap.size 1 (aL (kpO m)),.sl w0.heap.size 1 (aL (kpB m)),.sl w0.heap.size 1 (aL (kpC m))])::(q.1.1,q.1.2,.row 1 (bR (ar m).o))::(q.2.1.1,q.2.1.2,.row 1 (bR (ar m).b))::(q.2.2.1.1,q.2.2.1.2,.row 1 (bR (ar m).c))::(q.2.2.2.1,q.2.2.2.2,.row 1 (bR (ar m).p))::(s2,b2,.box ah.tz)::(y.2.2.2.2.1.1,y.2.2.2.2.1.2,.row 2 ((m.processes).map (ao.tw 0)))::S0) (by
   rw[hS0]
   have h:=adg (s6,b6,.box [.sl w0.heap.size 1 (aL (kpO m)),.sl w0.heap.size 1 (aL (kpB m)),.sl w0.heap.size 1 (aL (kpC m))]) (s5,b5,.box (b5C m w0.heap.size lo q)) (q.1.1,q.1.2,.row 1 (bR (ar m).o)) (q.2.1.1,q.2.1.2,.row 1 (bR (ar m).b)) (q.2.2.1.1,q.2.2.1.2,.row 1 (bR (ar m).c)) (q.2.2.2.1,q.2.2.2.2,.row 1 (bR (ar m).p)) (s7,b7,aW.box [.ms y.1.1.1.1 y.1.1.1.2 0 m.base.classes.length,.ms y.1.2.1.1.1 y.1.2.1.1.2 0 m.base.codes.length,.ms y.1.2.2.1 y.1.2.2.2 0 m.base.entries.length,.int .i64 m.base.main,.ms y.2.1.1.1.1 y.2.1.1.1.2 0 m.store.classes.length,.nils,.ms y.2.1.2.2.1 y.2.1.2.2.2 0 m.store.output.length,.int .i64 m.store.ticks,.int .i64 m.store.budget,.int .i64 m.store.made,.nils,.nils,.ms y.2.2.2.2.1.1 y.2.2.2.2.1.2 0 m.processes.length,.ms y.2.2.2.2.2.1 y.2.2.2.2.2.2 0 m.ready.length,.int .i64 m.now,.int .i64 m.status,.int .i64 m.value.kind,.int .i64 (m.value.number),.str m.value.text,.str m.fault]) (y.2.1.2.2.1,y.2.1.2.2.2,aW.row 1 (bQ m.store.output)) (y.2.2.1.1,y.2.2.1.2,aW.row 6 (m.blocks.map (ap.tw 0))) (y.2.2.2.2.1.1,y.2.2.2.2.1.2,.row 2 ((m.processes).map (ao.tw 0))) (y.2.2.2.2.2.1,y.2.2.2.2.2.2,aW.row 1 (aL m.ready)) (s2,b2,.box ah.tz) (cbO m.base y.1) (pV m.store.classes y.2.1.1) (ado m.store.objects y.2.1.2.1) (acX m.contexts y.2.2.2.1) R
   exact(show bW _ ((s6,b6,.box [.sl w0.heap.size 1 (aL (kpO m)),.sl w0.heap.size 1 (aL (kpB m)),.sl w0.heap.size 1 (aL (kpC m))])::(s5,b5,.box (b5C m w0.heap.size lo q))::(q.1.1,q.1.2,.row 1 (bR (ar m).o))::(q.2.1.1,q.2.1.2,.row 1 (bR (ar m).b))::(q.2.2.1.1,q.2.2.1.2,.row 1 (bR (ar m).c))::(q.2.2.2.1,q.2.2.2.2,.row 1 (bR (ar m).p))::(s7,b7,aW.box [.ms y.1.1.1.1 y.1.1.1.2 0 m.base.classes.length,.ms y.1.2.1.1.1 y.1.2.1.1.2 0 m.base.codes.length,.ms y.1.2.2.1 y.1.2.2.2 0 m.base.entries.length,.int .i64 m.base.main,.ms y.2.1.1.1.1 y.2.1.1.1.2 0 m.store.classes.length,.nils,.ms y.2.1.2.2.1 y.2.1.2.2.2 0 m.store.output.length,.int .i64 m.store.ticks,.int .i64 m.store.budget,.int .i64 m.store.made,.nils,.nils,.ms y.2.2.2.2.1.1 y.2.2.2.2.1.2 0 m.processes.length,.ms y.2.2.2.2.2.1 y.2.2.2.2.2.2 0 m.ready.length,.int .i64 m.now,.int .i64 m.status,.int .i64 m.value.kind,.int .i64 (m.value.number),.str m.value.text,.str m.fault])::(imO m y++((s2,b2,.box ah.tz)::R))) from by simpa [imO,stO] using h)) ?_
 refine fS 5 4 (by decide) rfl fun so=>?_
 refine fS 10 6 (by decide) rfl fun sb=>?_
 refine fS 11 14 (by decide) rfl fun sx=>?_
 dsimp only [List.set]
 refine aV (adt _ _ _ _ _ _ _ _ _ _ _ _ S0) ?_
 obtain⟨G1,hG1⟩:∃G1:aJ,G1=(sb,0,.row 6 [])::(sx,0,.row 14 [])::(y.2.2.2.2.1.1,y.2.2.2.2.1.2,.row 2 ((m.processes).map (ao.tw 0)))::(q.2.1.1,q.2.1.2,.row 1 (bR (ar m).b))::(q.2.2.1.1,q.2.2.1.2,.row 1 (bR (ar m).c))::(q.2.2.2.1,q.2.2.2.2,.row 1 (bR (ar m).p))::(s2,b2,.box ah.tz)::S0:=⟨_,rfl⟩
 rw[<- hG1]
 unfold b5C
 repeat' refine W_ ?_
 apply aj (X:=Nat×Nat×List (Pl×Pl)) [1,2,4,5,6,43,44,1000000] (fun x=>[(45,.int .i64 (x.1:Int))])
   (fun x=>(s7,b7,.box (bxC m y (.ms so x.2.1 0 (mg m x.1).length) (.ms sb 0 0 0) (.ms sx 0 0 0) (m.value.number)))::(so,x.2.1,.row 4 (nRg cu (mg m x.1) x.2.2))::(s5,b5,.box (b5C m w0.heap.size lo q))::(q.1.1,q.1.2,.row 1 (bR (ar m).o))::(s6,b6,.box [.sl w0.heap.size 1 (aL (kpO m)),.sl w0.heap.size 1 (aL (kpB m)),.sl w0.heap.size 1 (aL (kpC m))])::(nOg cS (mg m x.1) x.2.2++G1))
   (fun x=>x.1<=m.store.objects.length/\x.2.2.length=(mg m x.1).length) (fun x=>m.store.objects.length - x.1) (0,0,[]) ⟨Zd _,by rw[kZ];rfl⟩
 exact kp_;exact nw_
 ·rw[kZ];exact .refl _
 rintro ⟨i,bo,ps⟩ ⟨hi,hps⟩
 dsimp only at hi hps |-
 unfold bxC b5C
 have hol:=az.len lo m.store.objects
 by_cases hlt:i<m.store.objects.length
 ·have hkr:=fe (l:=(ar m).o) (n:=i) (by omega)
  have hke:=Za (l:=(ar m).o) (i:=i) (by omega)
  have hoe:=Za hlt
  have hra:(m.store.objects.map (az.tw lo))[i]?=some (m.store.objects[i].tw lo):=aK hlt
  have hbi:=hsm.2.1.2.1.2 _ (Zb hlt)
  have hfi:=hN.fld _ (Zb hlt)
  have hon:=hN.one _ (Zb hlt)
  cases hk:(ar m).o[i]'(by omega) with
  | true =>
    rw[hk] at hkr hke
    have hsu:mg m (i+1)=mg m i++[mvO (kpO m) (kpB m) (kpC m) m.store.objects[i]]:=aaj hoe hke
    have hLl:(mg m i).length<=i:=lQ _ _ _ _
    generalize m.store.objects[i]=c at hra hbi hfi hsu hon
    rw[show c.tw lo=[.int .i64 c.kind,.int .i64 c.class_,.sl lo 3 (c.fields.map (ab.tw lo)),.sl lo 1 (aL c.numbers)] from rfl] at hra
    have c2:=j8 (G:=GL) lo c hbi
    have x1:=hmvA 0 c.fields hbi.1.1 hfi
    have n1:=mJ (c.fields.map (mvV (kpO m) (kpB m))) c.fields.length
    generalize mg m i=LO at hsu hLl hps |-
    have hln:(nRg cu LO ps).length=LO.length:=gr _ hps
    have hln1:(LO++[mvO (kpO m) (kpB m) (kpC m) c]).length=LO.length+1:=by simp
    have hob0:=fun p=>sM cS hps (mvO (kpO m) (kpB m) (kpC m) c) p
    have hsn0:=fun p=>sI cu hps (mvO (kpO m) (kpB m) (kpC m) c) p
    have hmk:∀p,cu (mvO (kpO m) (kpB m) (kpC m) c) p=[.int .i64 c.kind,.int .i64 c.class_,.ms p.1.1 p.1.2 0 c.fields.length,.ms p.2.1 p.2.2 0 c.numbers.length]:=fun p=>by simp[cu,mvO,xm]
    simp only[hmk] at hsn0
    generalize nOg cS LO ps=T0 at hob0 |-
    unfold cu at c2
    repeat' (first|refine H_ 13 ?_|(refine am ?_;intro ss bb)|refine ac ?_|((with_reducible apply aB);rfl;kernel_rfl;(repeat (first|exact ay.nil|((with_reducible apply ay.cons);rfl)));exact hG;exact c2;exact .nil _;intro q0 hq0;refine aT (objs':=(q0.1.1,q0.1.2,.row 3 (c.fields.map (ab.tw 0)))::(q0.2.1,q0.2.2,.row 1 (aL c.numbers))::_::(s7,b7,_)::_) rfl ?_)|((with_reducible apply cB);rfl;kernel_rfl;exact hG;exact hst;exact x1;((repeat (first|exact bD.nil|((with_reducible apply bD.cons);rfl;(first|with_reducible exact bG.same _|((with_reducible apply bG.msAll);(repeat (first|with_reducible exact mh|with_reducible refine mt ?_));(first|with_reducible assumption|exact aw _|exact ae _|exact av _|exact Ze _|assumption|rfl))|((with_reducible apply bH);(repeat (first|with_reducible exact mh|with_reducible refine mt ?_));(first|with_reducible assumption|exact aw _|exact ae _|exact av _|exact Ze _|assumption|rfl))|((with_reducible apply bG.cut);exact bG.cp0 _ _;rfl))))));exact n1;intro p1 hp1;refine bF ?_))
    refine⟨?_⟩
    generalize ss=s9;generalize bb=b9
    have hsn:=hsn0 (p1,q0.2)
    have hob:=hob0 (p1,q0.2)
    by_cases h1:c.kind=1
    ·rcases hon h1 with hz|⟨a,b,d,hnu,ha,hb⟩
     ·have hz1:c.numbers.length=0:=by rw[hz];rfl
      repeat' (first|refine W_ ?_|refine cK ?_|refine ac ?_|((with_reducible apply bT);rfl;rfl;rfl;kernel_rfl;(repeat (first|with_reducible exact mh|with_reducible refine mt ?_));exact hln;exact(rfl:_=1);omega;exact hsn;(intro bq;(repeat (first|with_reducible exact Upd.head _|with_reducible apply Upd.tail)));intro bz))
      refine ag (i+1,bz,ps++([(p1,q0.2)]:List (Pl×Pl))) ⟨by dsimp only;omega,by dsimp only;rw[hsu,hln1,Zs,hps];rfl⟩ (by dsimp only;omega) (.of _ nw_ od_ ?_)
      dsimp only
      rw[hsu,hln1,hob]
      have hmm:mvM (kpC m) c=c.numbers:=yO _ _ hz1
      have hoo:cS (mvO (kpO m) (kpB m) (kpC m) c) (p1,q0.2)=[(p1.1,p1.2,.row 3 ((c.fields.map (mvV (kpO m) (kpB m))).map (ab.tw 0))),(q0.2.1,q0.2.2,.row 1 (aL (c.numbers)))]:=by
        rw[<- hmm];rfl
      rw[hoo]
      exact pQ _ _ _ _ _ _ _ _ _ T0 G1
     ·have hmm2:=uV (kpC m) c a b d hnu h1
      have hnl:c.numbers.length=3:=by rw[hnu];rfl
      have ha2:=hix a (by omega)
      have hb2:=hix b (by omega)
      rw[show aL c.numbers=[[.int .i64 a],[.int .i64 b],[.int .i64 d]] by rw[hnu];rfl]
      repeat' (first|refine W_ ?_|((with_reducible apply dI (id:=14) 9);kernel_rfl;kernel_rfl;kernel_rfl;(repeat (first|exact Cut.zero _|apply Cut.succ)))|((with_reducible apply dI (id:=15) 9);kernel_rfl;kernel_rfl;kernel_rfl;(repeat (first|exact Cut.zero _|apply Cut.succ)))|with_reducible refine eu (by kernel_rfl) (by kernel_rfl) ?_|with_reducible refine gu ?_|with_reducible refine ei ?_|with_reducible refine ek rfl ?_|refine gw rfl rfl rfl rr_ ?_|refine et rfl rfl rfl rr_ rfl rfl rfl ?_|refine dr rfl rfl rfl rr_ rfl rfl ?_|(refine ks rfl rfl rfl rr_ dd_ ?_)|(refine ky rfl rfl rfl rr_ dd_ ?_)|(refine cA rfl rfl rfl rr_ (fun hg=>?_) (fun hg=>?_))|(refine bX rfl rfl rfl rr_ (fun hg=>?_) (fun hg=>?_))|((with_reducible apply d_y);exact y_;rfl)|refine ai hG hst (ha2) ?_|refine ai hG hst (hb2) ?_|refine bm ?_)
      dsimp only [List.set]
      repeat' (first|refine W_ ?_|refine cK ?_|refine ac ?_|((with_reducible apply bT);rfl;rfl;rfl;kernel_rfl;(repeat (first|with_reducible exact mh|with_reducible refine mt ?_));exact hln;exact(rfl:_=1);omega;exact hsn;(intro bq;(repeat (first|with_reducible exact Upd.head _|with_reducible apply Upd.tail)));intro bz))
      refine ag (i+1,bz,ps++([(p1,q0.2)]:List (Pl×Pl))) ⟨by dsimp only;omega,by dsimp only;rw[hsu,hln1,Zs,hps];rfl⟩ (by dsimp only;omega) (.of _ nw_ od_ ?_)
      dsimp only
      rw[hsu,hln1,hob]
      have hmm:mvM (kpC m) c=nmk (kpC m) a b d 2:=hmm2
      have hoo:cS (mvO (kpO m) (kpB m) (kpC m) c) (p1,q0.2)=[(p1.1,p1.2,.row 3 ((c.fields.map (mvV (kpO m) (kpB m))).map (ab.tw 0))),(q0.2.1,q0.2.2,.row 1 (aL (nmk (kpC m) a b d 2)))]:=by
        rw[<- hmm];rfl
      rw[hoo]
      exact pQ _ _ _ _ _ _ _ _ _ T0 G1
    ·skip
     repeat' (first|refine W_ ?_|refine cK ?_|refine ac ?_|((with_reducible apply bT);rfl;rfl;rfl;kernel_rfl;(repeat (first|with_reducible exact mh|with_reducible refine mt ?_));exact hln;exact(rfl:_=1);omega;exact hsn;(intro bq;(repeat (first|with_reducible exact Upd.head _|with_reducible apply Upd.tail)));intro bz))
     refine ag (i+1,bz,ps++([(p1,q0.2)]:List (Pl×Pl))) ⟨by dsimp only;omega,by dsimp only;rw[hsu,hln1,Zs,hps];rfl⟩ (by dsimp only;omega) (.of _ nw_ od_ ?_)
     dsimp only
     rw[hsu,hln1,hob]
     have hmm:mvM (kpC m) c=c.numbers:=aeO _ _ h1
     have hoo:cS (mvO (kpO m) (kpB m) (kpC m) c) (p1,q0.2)=[(p1.1,p1.2,.row 3 ((c.fields.map (mvV (kpO m) (kpB m))).map (ab.tw 0))),(q0.2.1,q0.2.2,.row 1 (aL (c.numbers)))]:=by
       rw[<- hmm];rfl
     rw[hoo]
     exact pQ _ _ _ _ _ _ _ _ _ T0 G1
  | false =>
    rw[hk] at hkr hke
    have hsu:mg m (i+1)=mg m i:=aal hoe hke
    generalize m.store.objects[i]=c at hra
    rw[show c.tw lo=[.int .i64 c.kind,.int .i64 c.class_,.sl lo 3 (c.fields.map (ab.tw lo)),.sl lo 1 (aL c.numbers)] from rfl] at hra
    repeat' (first|refine W_ ?_|(refine am ?_;intro ss bb)|refine ac ?_)
    refine ag (i+1,bo,ps) ⟨by dsimp only;omega,by dsimp only;rw[hsu];exact hps⟩ (by dsimp only;omega) (.of _ nw_ od_ ?_)
    dsimp only
    rw[hsu]
    exact .drop (.refl _)
 obtain rfl:i=m.store.objects.length:=by omega
 obtain⟨LO,hLO⟩:∃LO,LO=mg m m.store.objects.length:=⟨_,rfl⟩
 rw[<- hLO] at hps |-
 obtain⟨NO,hNO⟩:∃NO:aJ,NO=nOg cS LO ps:=⟨_,rfl⟩
 rw[<- hNO,hG1]
 refine aV (abH _ _ _ _ _ _ _ _ _ _ _ _ NO S0) ?_
 obtain⟨G2,hG2⟩:∃G2:aJ,G2=(so,bo,.row 4 (nRg cu LO ps))::(sx,0,.row 14 [])::(y.2.2.2.2.1.1,y.2.2.2.2.1.2,.row 2 ((m.processes).map (ao.tw 0)))::(q.1.1,q.1.2,.row 1 (bR (ar m).o))::(q.2.2.1.1,q.2.2.1.2,.row 1 (bR (ar m).c))::(q.2.2.2.1,q.2.2.2.2,.row 1 (bR (ar m).p))::(s2,b2,.box ah.tz)::(NO++S0):=⟨_,rfl⟩
 rw[<- hG2]
 repeat' refine W_ ?_
 apply aj (X:=Nat×Nat) [1,2,4,5,6,102,103,1000000] (fun x=>[(104,.int .i64 (x.1:Int))])
   (fun x=>(s7,b7,.box (bxC m y (.ms so bo 0 LO.length) (.ms sb x.2 0 (qd m x.1).length) (.ms sx 0 0 0) (m.value.number)))::(sb,x.2,.row 6 ((qd m x.1).map (ap.tw 0)))::(s5,b5,.box (b5C m w0.heap.size lo q))::(q.2.1.1,q.2.1.2,.row 1 (bR (ar m).b))::(s6,b6,.box [.sl w0.heap.size 1 (aL (kpO m)),.sl w0.heap.size 1 (aL (kpB m)),.sl w0.heap.size 1 (aL (kpC m))])::G2)
   (fun x=>x.1<=m.blocks.length) (fun x=>m.blocks.length - x.1) (0,0) (Zd _)
 exact kp_;exact nw_
 ·rw[ur];exact .refl _
 rintro ⟨i,bk⟩ hi
 dsimp only at hi |-
 unfold bxC b5C
 have hol:=ap.len lo m.blocks
 by_cases hlt:i<m.blocks.length
 ·have hkr:=fe (l:=(ar m).b) (n:=i) (by omega)
  have hke:=Za (l:=(ar m).b) (i:=i) (by omega)
  have hoe:=Za hlt
  have hra:(m.blocks.map (ap.tw lo))[i]?=some (m.blocks[i].tw lo):=aK hlt
  have hbk:=hN.blk _ (Zb hlt)
  cases hk:(ar m).b[i]'(by omega) with
  | true =>
    rw[hk] at hkr hke
    have hsu:qd m (i+1)=qd m i++[mvB (kpO m) (kpB m) (kpC m) m.blocks[i]]:=aaj hoe hke
    have hLl:(qd m i).length<=i:=lQ _ _ _ _
    generalize m.blocks[i]=c at hra hbk hsu
    rw[show c.tw lo=[.int .i64 c.code,.int .i64 c.outer,.int .i64 c.home,.int .i64 c.self.kind,.int .i64 c.self.number,.str c.self.text] from rfl] at hra
    have y1:=hix c.outer (by omega)
    have y2:=hix c.home (by omega)
    have y3:=hmv1 c.self hbk.1
    generalize qd m i=LB at hsu hLl |-
    have hln:(LB.map (ap.tw 0)).length=LB.length:=Ze _
    have hln1:(LB++[mvB (kpO m) (kpB m) (kpC m) c]).length=LB.length+1:=by simp
    have hsn:LB.map (ap.tw 0)++[[.int .i64 c.code,.int .i64 (mvI (kpC m) c.outer),.int .i64 (mvI (kpC m) c.home),.int .i64 c.self.kind,.int .i64 (mvN (kpO m) (kpB m) c.self.kind c.self.number),.str c.self.text]]=(LB++[mvB (kpO m) (kpB m) (kpC m) c]).map (ap.tw 0):=by rw[Z1];rfl
    repeat' (first|refine W_ ?_|(refine am ?_;intro ss bb)|refine ac ?_)
    generalize ss=s9;generalize bb=b9
    refine aV (pj _ _ _ _) ?_
    repeat' (first|refine W_ ?_|((with_reducible apply eS (id:=22) 20);kernel_rfl;kernel_rfl;kernel_rfl;rfl;(repeat (first|exact Cut.zero _|apply Cut.succ)))|((with_reducible apply m_q);exact ym_;rfl;exact eh)|((with_reducible apply cr);rfl;(intro p;try dsimp only);(repeat (first|exact TB.nil _|((with_reducible apply TB.cons);rfl;rfl;(first|exact .nil _|exact .put _ _ _ _ _ (.nil _)|exact .skip _ _ _ _ _ (.put _ _ _ _ _ (.nil _))|exact .skip _ _ _ _ _ (.skip _ _ _ _ _ (.put _ _ _ _ _ (.nil _)))|(repeat (first|exact .nil _|apply aY.put|apply aY.skip)));kernel_rfl)));rfl;kernel_rfl;kernel_rfl;exact eh)|((with_reducible apply i5);(intro p;rfl);rfl;kernel_rfl;kernel_rfl;rfl;kernel_rfl;rfl;(intro p;rfl);rfl;(intro p;rfl);exact eh)|((with_reducible apply iK hG hst y1);rfl;kernel_rfl;(focus (intro p;(repeat (first|exact bD.nil|((with_reducible apply bD.cons);rfl;exact .same _)));done)))|((with_reducible apply iK hG hst y2);rfl;kernel_rfl;(focus (intro p;(repeat (first|exact bD.nil|((with_reducible apply bD.cons);rfl;exact .same _)));done)))|((with_reducible apply iK hG hst y3);rfl;kernel_rfl;(focus (intro p;(repeat (first|exact bD.nil|((with_reducible apply bD.cons);rfl;exact .same _)));done)))|((with_reducible apply jA);(intro p;rfl);(intro p;rfl);rfl;kernel_rfl;(intro p;rfl);exact hln;(intro p;show List.length _=1;rfl);omega;exact fun p=>hsn;exact⟨by decide,by decide⟩;exact oE;rfl;(focus (simp;done)))|(with_reducible refine DM.nil _ _ _ ?_))
    intro p hp
    clear hp
    refine aT (objs':=(sb,(p 18).b,.row 6 ((LB++[mvB (kpO m) (kpB m) (kpC m) c]).map (ap.tw 0)))::(s9,b9,.box [.int .i64 c.code,.int .i64 c.outer,.int .i64 c.home,.int .i64 c.self.kind,.int .i64 c.self.number,.str c.self.text])::(s7,b7,_)::_) (by rw[show ed _=[_] from rfl];(try simp only[ZB,ZM,Zo,ZD,Zz]);(try rfl)) ?_
    dsimp only [Nat.reduceAdd]
    generalize Yu.b (p 18)=bz
    repeat' (first|refine W_ ?_|refine ac ?_)
    refine ag (i+1,bz) (by dsimp only;omega) (by dsimp only;omega) (.of _ nw_ od_ ?_)
    dsimp only
    rw[hsu,hln1]
    exact uY _ _ _ _ _
  | false =>
    rw[hk] at hkr hke
    have hsu:qd m (i+1)=qd m i:=aal hoe hke
    generalize m.blocks[i]=c at hra
    rw[show c.tw lo=[.int .i64 c.code,.int .i64 c.outer,.int .i64 c.home,.int .i64 c.self.kind,.int .i64 c.self.number,.str c.self.text] from rfl] at hra
    repeat' (first|refine W_ ?_|(refine am ?_;intro ss bb)|refine ac ?_)
    refine ag (i+1,bk) (by dsimp only;omega) (by dsimp only;omega) (.of _ nw_ od_ ?_)
    dsimp only
    rw[hsu]
    exact .drop (.refl _)
 obtain rfl:i=m.blocks.length:=by omega
 obtain⟨LB,hLB⟩:∃LB,LB=qd m m.blocks.length:=⟨_,rfl⟩
 rw[<- hLB,hG2]
 refine aV (acc _ _ _ _ _ _ _ _ _ _ _ _ NO S0) ?_
 obtain⟨G3,hG3⟩:∃G3:aJ,G3=(so,bo,.row 4 (nRg cu LO ps))::(sb,bk,.row 6 (LB.map (ap.tw 0)))::(y.2.2.2.2.1.1,y.2.2.2.2.1.2,.row 2 ((m.processes).map (ao.tw 0)))::(q.1.1,q.1.2,.row 1 (bR (ar m).o))::(q.2.1.1,q.2.1.2,.row 1 (bR (ar m).b))::(q.2.2.2.1,q.2.2.2.2,.row 1 (bR (ar m).p))::(s2,b2,.box ah.tz)::(NO++S0):=⟨_,rfl⟩
 rw[<- hG3]
 repeat' refine W_ ?_
 apply aj (X:=Nat×Nat×List (Pl×Pl×Pl)) [1,2,4,5,6,138,139,1000000] (fun x=>[(140,.int .i64 (x.1:Int))])
   (fun x=>(s7,b7,.box (bxC m y (.ms so bo 0 LO.length) (.ms sb bk 0 LB.length) (.ms sx x.2.1 0 (lV m x.1).length) (m.value.number)))::(sx,x.2.1,.row 14 (nRg cR (lV m x.1) x.2.2))::(s5,b5,.box (b5C m w0.heap.size lo q))::(q.2.2.1.1,q.2.2.1.2,.row 1 (bR (ar m).c))::(s6,b6,.box [.sl w0.heap.size 1 (aL (kpO m)),.sl w0.heap.size 1 (aL (kpB m)),.sl w0.heap.size 1 (aL (kpC m))])::(nOg de (lV m x.1) x.2.2++G3))
   (fun x=>x.1<=m.contexts.length/\x.2.2.length=(lV m x.1).length) (fun x=>m.contexts.length - x.1) (0,0,[]) ⟨Zd _,by rw[lp];rfl⟩
 exact kp_;exact nw_
 ·rw[lp];exact .refl _
 rintro ⟨i,bx,px⟩ ⟨hi,hpx⟩
 dsimp only at hi hpx |-
 unfold bxC b5C
 have hol:=aq.len lo m.contexts
 by_cases hlt:i<m.contexts.length
 ·have hkr:=fe (l:=(ar m).c) (n:=i) (by omega)
  have hke:=Za (l:=(ar m).c) (i:=i) (by omega)
  have hoe:=Za hlt
  have hra:(m.contexts.map (aq.tw lo))[i]?=some (m.contexts[i].tw lo):=aK hlt
  have hbi:=hsm.2.2.2.1.2 _ (Zb hlt)
  have hfi:=hN.ctx i hlt
  cases hk:(ar m).c[i]'(by omega) with
  | true =>
    rw[hk] at hkr hke
    have hsu:lV m (i+1)=lV m i++[mvC (kpO m) (kpB m) (kpC m) m.contexts[i]]:=aaj hoe hke
    have hLl:(lV m i).length<=i:=lQ _ _ _ _
    generalize m.contexts[i]=c at hra hbi hfi hsu
    rw[show c.tw lo=[.int .i64 c.mark,.int .i64 c.code,.int .i64 c.pc,.int .i64 c.sender,.int .i64 c.outer,.int .i64 c.home,.int .i64 c.self.kind,.int .i64 c.self.number,.str c.self.text,.sl lo 3 (c.slots.map (ab.tw lo)),.sl lo 3 (c.stack.map (ab.tw lo)),.sl lo 3 (c.values.map (ab.tw lo)),.int .i64 c.other,.bool c.retry] from rfl] at hra
    obtain⟨g1,g2,g3,g4,g5,g6,g7,g8⟩:=hfi
    have x1:=hix c.sender (by omega)
    have x2:=hix c.outer (by omega)
    have x3:=hix c.home (by omega)
    have x5:=hmv1 c.self g5
    have x6:=hmvA lo c.slots hbi.2.1.1 g6
    have x7:=hmvA lo c.stack hbi.2.2.1.1 g7
    have x8:=hmvA lo c.values hbi.2.2.2.1 g8
    have n6:=mJ (c.slots.map (mvV (kpO m) (kpB m))) c.slots.length
    have n7:=mJ (c.stack.map (mvV (kpO m) (kpB m))) c.stack.length
    have n8:=mJ (c.values.map (mvV (kpO m) (kpB m))) c.values.length
    have hpt:=ol (G:=GL) lo ⟨c.mark,c.code,c.pc,mvI (kpC m) c.sender,mvI (kpC m) c.outer,mvI (kpC m) c.home,c.self,c.slots,c.stack,c.values,c.other,c.retry⟩
    unfold afB at hpt
    dsimp only at hpt
    generalize lV m i=LC at hsu hLl hpx |-
    have hln:(nRg cR LC px).length=LC.length:=gr _ hpx
    have hln1:(LC++[mvC (kpO m) (kpB m) (kpC m) c]).length=LC.length+1:=by simp
    have hob0:=fun p=>sM de hpx (mvC (kpO m) (kpB m) (kpC m) c) p
    have hsn0:=fun p=>sI cR hpx (mvC (kpO m) (kpB m) (kpC m) c) p
    have hmk:∀p,cR (mvC (kpO m) (kpB m) (kpC m) c) p=[.int .i64 c.mark,.int .i64 c.code,.int .i64 c.pc,.int .i64 (mvI (kpC m) c.sender),.int .i64 (mvI (kpC m) c.outer),.int .i64 (mvI (kpC m) c.home),.int .i64 c.self.kind,.int .i64 (mvN (kpO m) (kpB m) c.self.kind c.self.number),.str c.self.text,.ms p.1.1 p.1.2 0 c.slots.length,.ms p.2.1.1 p.2.1.2 0 c.stack.length,.ms p.2.2.1 p.2.2.2 0 c.values.length,.int .i64 (if c.mark=3\/c.mark=5 then mvI (kpC m) c.other else c.other),.bool c.retry]:=fun p=>by simp[cR,mvC,mvV]
    simp only[hmk] at hsn0
    generalize nOg de LC px=T0 at hob0 |-
    repeat' (first|refine H_ 29 ?_|(refine am ?_;intro ss bb)|refine ac ?_|((with_reducible apply dI (id:=28) 13);kernel_rfl;kernel_rfl;kernel_rfl;(repeat (first|exact Cut.zero _|apply Cut.succ)))|with_reducible refine eu (by kernel_rfl) (by kernel_rfl) ?_|with_reducible refine gu ?_|with_reducible refine ei ?_|with_reducible refine ek rfl ?_|refine gw rfl rfl rfl rr_ ?_|refine et rfl rfl rfl rr_ rfl rfl rfl ?_|refine dr rfl rfl rfl rr_ rfl rfl ?_|(refine ks rfl rfl rfl rr_ dd_ ?_)|(refine ky rfl rfl rfl rr_ dd_ ?_)|(refine cA rfl rfl rfl rr_ (fun hg=>?_) (fun hg=>?_))|(refine bX rfl rfl rfl rr_ (fun hg=>?_) (fun hg=>?_))|((with_reducible apply d_y);exact y_;rfl)|refine ai hG hst (x1) ?_|refine ai hG hst (x2) ?_|refine ai hG hst (x3) ?_)
    refine⟨?_⟩
    generalize ss=s9;generalize bb=b9
    by_cases h35:c.mark=3\/c.mark=5
    ·have x4:=hix c.other (by have:=(g4 h35).2;omega)
     rw[if_pos h35] at hsn0
     rw[decide_eq_true h35] at hpt
     repeat' (first|refine W_ ?_|refine ac ?_|refine ad hG hst (x4) ?_|refine ad hG hst (hpt) ?_)
     repeat' (first|refine W_ ?_|((with_reducible apply dv (id:=31) 17);kernel_rfl;kernel_rfl;kernel_rfl;rfl;(repeat (first|exact Cut.zero _|apply Cut.succ)))|((with_reducible apply m_q);exact ym_;rfl;exact eh)|((with_reducible apply cr);rfl;(intro p;try dsimp only);(repeat (first|exact TB.nil _|((with_reducible apply TB.cons);rfl;rfl;(first|exact .nil _|exact .put _ _ _ _ _ (.nil _)|exact .skip _ _ _ _ _ (.put _ _ _ _ _ (.nil _))|exact .skip _ _ _ _ _ (.skip _ _ _ _ _ (.put _ _ _ _ _ (.nil _)))|(repeat (first|exact .nil _|apply aY.put|apply aY.skip)));kernel_rfl)));rfl;kernel_rfl;kernel_rfl;exact eh)|((with_reducible apply iK hG hst x5);rfl;kernel_rfl;(focus (intro p;(repeat (first|exact bD.nil|((with_reducible apply bD.cons);rfl;exact .same _)));done)))|((with_reducible apply fJ hG hst x6);rfl;kernel_rfl;(focus (intro p;(repeat (first|exact bD.nil|((with_reducible apply bD.cons);rfl;exact .same _)));done));exact n6)|((with_reducible apply fJ hG hst x7);rfl;kernel_rfl;(focus (intro p;(repeat (first|exact bD.nil|((with_reducible apply bD.cons);rfl;exact .same _)));done));exact n7)|((with_reducible apply fJ hG hst x8);rfl;kernel_rfl;(focus (intro p;(repeat (first|exact bD.nil|((with_reducible apply bD.cons);rfl;exact .same _)));done));exact n8)|(with_reducible refine DM.nil _ _ _ ?_))
     intro p hp
     clear hp
     refine aT (objs':=((Enc.dec (p 15):Nat×Nat).1,(Enc.dec (p 15):Nat×Nat).2,.row 3 ((c.values.map (mvV (kpO m) (kpB m))).map (ab.tw 0)))::((Enc.dec (p 11):Nat×Nat).1,(Enc.dec (p 11):Nat×Nat).2,.row 3 ((c.stack.map (mvV (kpO m) (kpB m))).map (ab.tw 0)))::((Enc.dec (p 7):Nat×Nat).1,(Enc.dec (p 7):Nat×Nat).2,.row 3 ((c.slots.map (mvV (kpO m) (kpB m))).map (ab.tw 0)))::(s9,b9,_)::_) (by rw[show ed _=[_,_,_] from rfl];(try simp only[ZB,ZM,Zo,ZD,Zz]);(try rfl)) ?_
     dsimp only [Nat.reduceAdd]
     generalize (Enc.dec (p 15):Nat×Nat)=p3
     generalize (Enc.dec (p 11):Nat×Nat)=p2
     generalize (Enc.dec (p 7):Nat×Nat)=p1
     have hsn:=hsn0 (p1,p2,p3)
     have hob:=hob0 (p1,p2,p3)
     repeat' (first|refine W_ ?_|refine cK ?_|refine ac ?_|((with_reducible apply bT);rfl;rfl;rfl;kernel_rfl;(repeat (first|with_reducible exact mh|with_reducible refine mt ?_));exact hln;exact(rfl:_=1);omega;exact hsn;(intro bq;(repeat (first|with_reducible exact Upd.head _|with_reducible apply Upd.tail)));intro bz))
     refine ag (i+1,bz,px++([(p1,p2,p3)]:List (Pl×Pl×Pl))) ⟨by dsimp only;omega,by dsimp only;rw[hsu,hln1,Zs,hpx];rfl⟩ (by dsimp only;omega) (.of _ nw_ od_ ?_)
     dsimp only
     rw[hsu,hln1,hob]
     exact vL _ _ _ _ _ _ _ _ _ T0 G3
    ·rw[if_neg h35] at hsn0
     rw[decide_eq_false h35] at hpt
     repeat' (first|refine W_ ?_|refine ad hG hst (hpt) ?_)
     repeat' (first|refine W_ ?_|((with_reducible apply dv (id:=31) 17);kernel_rfl;kernel_rfl;kernel_rfl;rfl;(repeat (first|exact Cut.zero _|apply Cut.succ)))|((with_reducible apply m_q);exact ym_;rfl;exact eh)|((with_reducible apply cr);rfl;(intro p;try dsimp only);(repeat (first|exact TB.nil _|((with_reducible apply TB.cons);rfl;rfl;(first|exact .nil _|exact .put _ _ _ _ _ (.nil _)|exact .skip _ _ _ _ _ (.put _ _ _ _ _ (.nil _))|exact .skip _ _ _ _ _ (.skip _ _ _ _ _ (.put _ _ _ _ _ (.nil _)))|(repeat (first|exact .nil _|apply aY.put|apply aY.skip)));kernel_rfl)));rfl;kernel_rfl;kernel_rfl;exact eh)|((with_reducible apply iK hG hst x5);rfl;kernel_rfl;(focus (intro p;(repeat (first|exact bD.nil|((with_reducible apply bD.cons);rfl;exact .same _)));done)))|((with_reducible apply fJ hG hst x6);rfl;kernel_rfl;(focus (intro p;(repeat (first|exact bD.nil|((with_reducible apply bD.cons);rfl;exact .same _)));done));exact n6)|((with_reducible apply fJ hG hst x7);rfl;kernel_rfl;(focus (intro p;(repeat (first|exact bD.nil|((with_reducible apply bD.cons);rfl;exact .same _)));done));exact n7)|((with_reducible apply fJ hG hst x8);rfl;kernel_rfl;(focus (intro p;(repeat (first|exact bD.nil|((with_reducible apply bD.cons);rfl;exact .same _)));done));exact n8)|(with_reducible refine DM.nil _ _ _ ?_))
     intro p hp
     clear hp
     refine aT (objs':=((Enc.dec (p 15):Nat×Nat).1,(Enc.dec (p 15):Nat×Nat).2,.row 3 ((c.values.map (mvV (kpO m) (kpB m))).map (ab.tw 0)))::((Enc.dec (p 11):Nat×Nat).1,(Enc.dec (p 11):Nat×Nat).2,.row 3 ((c.stack.map (mvV (kpO m) (kpB m))).map (ab.tw 0)))::((Enc.dec (p 7):Nat×Nat).1,(Enc.dec (p 7):Nat×Nat).2,.row 3 ((c.slots.map (mvV (kpO m) (kpB m))).map (ab.tw 0)))::(s9,b9,_)::_) (by rw[show ed _=[_,_,_] from rfl];(try simp only[ZB,ZM,Zo,ZD,Zz]);(try rfl)) ?_
     dsimp only [Nat.reduceAdd]
     generalize (Enc.dec (p 15):Nat×Nat)=p3
     generalize (Enc.dec (p 11):Nat×Nat)=p2
     generalize (Enc.dec (p 7):Nat×Nat)=p1
     have hsn:=hsn0 (p1,p2,p3)
     have hob:=hob0 (p1,p2,p3)
     repeat' (first|refine W_ ?_|refine cK ?_|refine ac ?_|((with_reducible apply bT);rfl;rfl;rfl;kernel_rfl;(repeat (first|with_reducible exact mh|with_reducible refine mt ?_));exact hln;exact(rfl:_=1);omega;exact hsn;(intro bq;(repeat (first|with_reducible exact Upd.head _|with_reducible apply Upd.tail)));intro bz))
     refine ag (i+1,bz,px++([(p1,p2,p3)]:List (Pl×Pl×Pl))) ⟨by dsimp only;omega,by dsimp only;rw[hsu,hln1,Zs,hpx];rfl⟩ (by dsimp only;omega) (.of _ nw_ od_ ?_)
     dsimp only
     rw[hsu,hln1,hob]
     exact vL _ _ _ _ _ _ _ _ _ T0 G3
  | false =>
    rw[hk] at hkr hke
    have hsu:lV m (i+1)=lV m i:=aal hoe hke
    generalize m.contexts[i]=c at hra
    rw[show c.tw lo=[.int .i64 c.mark,.int .i64 c.code,.int .i64 c.pc,.int .i64 c.sender,.int .i64 c.outer,.int .i64 c.home,.int .i64 c.self.kind,.int .i64 c.self.number,.str c.self.text,.sl lo 3 (c.slots.map (ab.tw lo)),.sl lo 3 (c.stack.map (ab.tw lo)),.sl lo 3 (c.values.map (ab.tw lo)),.int .i64 c.other,.bool c.retry] from rfl] at hra
    repeat' (first|refine W_ ?_|(refine am ?_;intro ss bb)|refine ac ?_)
    refine ag (i+1,bx,px) ⟨by dsimp only;omega,by dsimp only;rw[hsu];exact hpx⟩ (by dsimp only;omega) (.of _ nw_ od_ ?_)
    dsimp only
    rw[hsu]
    exact .drop (.refl _)
 obtain rfl:i=m.contexts.length:=by omega
 obtain⟨LC,hLC⟩:∃LC,LC=lV m m.contexts.length:=⟨_,rfl⟩
 rw[<- hLC] at hpx |-
 obtain⟨NX,hNX⟩:∃NX:aJ,NX=nOg de LC px:=⟨_,rfl⟩
 rw[<- hNX,hG3]
 refine aV (ac0 _ _ _ _ _ _ _ _ _ _ _ _ NX NO S0) ?_
 obtain⟨G4,hG4⟩:∃G4:aJ,G4=(so,bo,.row 4 (nRg cu LO ps))::(sb,bk,.row 6 (LB.map (ap.tw 0)))::(sx,bx,.row 14 (nRg cR LC px))::(q.1.1,q.1.2,.row 1 (bR (ar m).o))::(q.2.1.1,q.2.1.2,.row 1 (bR (ar m).b))::(q.2.2.1.1,q.2.2.1.2,.row 1 (bR (ar m).c))::(s2,b2,.box ah.tz)::(NX++(NO++S0)):=⟨_,rfl⟩
 rw[<- hG4]
 repeat' refine W_ ?_
 apply aj (X:=Nat) [1,2,4,5,6,204,1000000] (fun i=>[(205,.int .i64 (i:Int))])
   (fun i=>(s7,b7,.box (bxC m y (.ms so bo 0 LO.length) (.ms sb bk 0 LB.length) (.ms sx bx 0 LC.length) (m.value.number)))::(y.2.2.2.2.1.1,y.2.2.2.2.1.2,.row 2 ((nj m i).map (ao.tw 0)))::(s5,b5,.box (b5C m w0.heap.size lo q))::(q.2.2.2.1,q.2.2.2.2,.row 1 (bR (ar m).p))::(s6,b6,.box [.sl w0.heap.size 1 (aL (kpO m)),.sl w0.heap.size 1 (aL (kpB m)),.sl w0.heap.size 1 (aL (kpC m))])::G4)
   (fun i=>i<=m.processes.length) (fun i=>m.processes.length - i) 0 (Zd _)
 exact kp_;exact nw_
 ·rw[uf];exact .refl _
 intro i hi
 try dsimp only
 unfold bxC b5C
 have hpl:((nj m i).map (ao.tw 0)).length=m.processes.length:=by rw[Ze,nG]
 by_cases hlt:i<m.processes.length
 ·have hkr:=fe (l:=(ar m).p) (n:=i) (by omega)
  have hke:=Za (l:=(ar m).p) (i:=i) (by omega)
  have hrb:((nj m i).map (ao.tw 0))[i]?=some (m.processes[i].tw 0):=by rw[Zp];unfold nj;rw[zj _ _ hlt];rfl
  have hset:=zb (kpC m) (ar m).p hlt
  have hpa:=hN.prc _ (Zb hlt)
  rw[show (m.processes[i]).tw 0=[.int .i64 m.processes[i].at_,.bool m.processes[i].main] from rfl] at hrb
  cases hk:(ar m).p[i]'(by omega) with
  | true =>
    rw[hk] at hkr hke
    have hse:((nj m i).map (ao.tw 0)).set i [.int .i64 (mvI (kpC m) m.processes[i].at_),.bool m.processes[i].main]=(nj m (i+1)).map (ao.tw 0):=by
      unfold nj
      rw[<- hset,Ys]
      unfold mvP
      rw[if_pos hke];rfl
    generalize m.processes[i]=c at hrb hse hpa
    have y1:=hix c.at_ (by omega)
    repeat' (first|refine W_ ?_|((with_reducible apply dI (id:=38) 13);kernel_rfl;kernel_rfl;kernel_rfl;(repeat (first|exact Cut.zero _|apply Cut.succ)))|with_reducible refine eu (by kernel_rfl) (by kernel_rfl) ?_|with_reducible refine gu ?_|with_reducible refine ei ?_|with_reducible refine ek rfl ?_|refine gw rfl rfl rfl rr_ ?_|refine et rfl rfl rfl rr_ rfl rfl rfl ?_|refine dr rfl rfl rfl rr_ rfl rfl ?_|(refine ks rfl rfl rfl rr_ dd_ ?_)|(refine ky rfl rfl rfl rr_ dd_ ?_)|(refine cA rfl rfl rfl rr_ (fun hg=>?_) (fun hg=>?_))|(refine bX rfl rfl rfl rr_ (fun hg=>?_) (fun hg=>?_))|((with_reducible apply d_y);exact y_;rfl)|refine ai hG hst (y1) ?_|refine bm ?_)
    refine ag (i+1) (by omega) (by omega) (.of _ nw_ od_ ?_)
    try dsimp only
    rw[<- hse]
    exact .refl _
  | false =>
    rw[hk] at hkr hke
    have hse:((nj m i).map (ao.tw 0)).set i [.int .i64 (-1),.bool m.processes[i].main]=(nj m (i+1)).map (ao.tw 0):=by
      unfold nj
      rw[<- hset,Ys]
      unfold mvP
      rw[if_neg (by rw[hke];simp)];rfl
    generalize m.processes[i]=c at hrb hse
    repeat' (first|refine W_ ?_|refine bm ?_)
    refine ag (i+1) (by omega) (by omega) (.of _ nw_ od_ ?_)
    try dsimp only
    rw[<- hse]
    exact .refl _
 obtain rfl:i=m.processes.length:=by omega
 rw[hG4]
 have xv:=hmv1 m.value hN.val
 repeat' (first|refine W_ ?_|refine ac ?_|refine ad hG hst (xv) ?_)
 rw[hNX,hNO,hS0]
 obtain⟨hcb,⟨hpc,_⟩,_⟩:=hy
 refine cW (t1:=.agg [.ms y.1.1.1.1 y.1.1.1.2 0 m.base.classes.length,.ms y.1.2.1.1.1 y.1.2.1.1.2 0 m.base.codes.length,.ms y.1.2.2.1 y.1.2.2.2 0 m.base.entries.length,.int .i64 m.base.main,.ms y.2.1.1.1.1 y.2.1.1.1.2 0 m.store.classes.length,.ms so bo 0 LO.length,.ms y.2.1.2.2.1 y.2.1.2.2.2 0 m.store.output.length,.int .i64 m.store.ticks,.int .i64 m.store.budget,.int .i64 m.store.made,.ms sb bk 0 LB.length,.ms sx bx 0 LC.length,.ms y.2.2.2.2.1.1 y.2.2.2.2.1.2 0 m.processes.length,.ms y.2.2.2.2.2.1 y.2.2.2.2.2.2 0 m.ready.length,.int .i64 m.now,.int .i64 m.status,.int .i64 m.value.kind,.int .i64 (mvN (kpO m) (kpB m) m.value.kind m.value.number),.str m.value.text,.str m.fault]) (t2:=.bool true) x_ rfl (y.1,(y.2.1.1,((so,bo),ps),y.2.1.2.2),(sb,bk),((sx,bx),px),y.2.2.2.2) ⟨hcb,⟨hpc, ?_⟩, ?_⟩ rfl (.app _ R) ?_ (.cell _ _ _ _ _ rfl (by repeat (first|(with_reducible exact Zi)|apply Zg)) (by kernel_rfl) (by kernel_rfl) (by kernel_rfl)) (.tmp _ _ rfl) ?_
 ·show ps.length=(mg m m.store.objects.length).length
  rw[<- hLO];exact hps
 ·show px.length=(lV m m.contexts.length).length
  rw[<- hLC];exact hpx
 ·rw[rE,<- hLO,<- hLB,<- hLC]
  have h:=adk (s7,b7,.box (bxC m y (.ms so bo 0 LO.length) (.ms sb bk 0 LB.length) (.ms sx bx 0 LC.length) (mvN (kpO m) (kpB m) m.value.kind m.value.number))) (y.2.2.2.2.1.1,y.2.2.2.2.1.2,.row 2 ((nj m m.processes.length).map (ao.tw 0))) (s5,b5,.box (b5C m w0.heap.size lo q)) (q.2.2.2.1,q.2.2.2.2,.row 1 (bR (ar m).p)) (s6,b6,.box [.sl w0.heap.size 1 (aL (kpO m)),.sl w0.heap.size 1 (aL (kpB m)),.sl w0.heap.size 1 (aL (kpC m))]) (so,bo,.row 4 (nRg cu LO ps)) (sb,bk,.row 6 (LB.map (ap.tw 0))) (sx,bx,.row 14 (nRg cR LC px)) (q.1.1,q.1.2,.row 1 (bR (ar m).o)) (q.2.1.1,q.2.1.2,.row 1 (bR (ar m).b)) (q.2.2.1.1,q.2.2.1.2,.row 1 (bR (ar m).c)) (s2,b2,aW.box (bxC m y (.ms so bo 0 LO.length) (.ms sb bk 0 LB.length) (.ms sx bx 0 LC.length) (mvN (kpO m) (kpB m) m.value.kind m.value.number))) (y.2.1.2.2.1,y.2.1.2.2.2,aW.row 1 (bQ m.store.output)) (y.2.2.2.2.2.1,y.2.2.2.2.2.2,aW.row 1 (aL m.ready)) (nOg de LC px) (nOg cS LO ps) (cbO m.base y.1) (pV m.store.classes y.2.1.1) R
  simpa [imO,stO,ado,acX,bxC,b5C] using h
 ·rw[rE,<- hLO,<- hLB,<- hLC]
  simp[imC,nG,mvV]
theorem i7 (x:ah) (hb:x.small 9223372036854775807):Ct Tryz.prog GL 6 [.agg (x.tw 0)] (fun _=>.bool true):=by
 have hst:=d8
 have hto:=fun hx=>ws hst 0 x hx
 have htw:=fun hx=>pM hst 0 x hx
 refine au Tryz.func6 rfl Tryz.ntmps6 rfl rfl fun w0 _ hG=>?_
 have hsp:=fun hx=>j2 w0.heap.size x hx
 have him:=fun(hx:x.small 1048576)=>fU 0 x hx
 have him2:=fun(hx:x.small 1048576)=>fU w0.heap.size x hx
 have heq:=fun hx=>qN hst 0 w0.heap.size x hx
 have hmk:=fun(hx:x.small 1048576) y hy=>lw hst x y hy hx 1 (by omega)
 have hsm:x.small 1048576->(bw x).small 1048576:=fun h=>kf h
 have hvw:∀{objs:aJ} {y:jm},imI x y->(∀o∈imO x y,o∈objs)->bG objs (.agg (imC x y)) (.agg (x.tw 0)):=fun h1 h2=>xg h1 h2
 have hnk:=fun hx=>qR (x:=x) hx 1
 have hsz:=aaq hst 0 x 1048576 (by omega) hb
 generalize bw x=sx at hsp him him2 hsm
 generalize eJ x=vb at hsp him him2
 have hnew:=afG sx vb
 have hvs:∀{objs:aJ} {y:jm},imI sx y->(∀o∈imO sx y,o∈objs)->bG objs (.agg (imC sx y)) (.agg (sx.tw 0)):=fun h1 h2=>xg h1 h2
 unfold ah.tw at hto htw hsp heq hvw him him2 hsz |-
 unfold imC at hsp him him2 hnew hvs
 repeat' (first|refine H_ 3 ?_|refine aN ?_|((with_reducible apply aB);rfl;kernel_rfl;(repeat (first|exact ay.nil|((with_reducible apply ay.cons);rfl)));exact hG;exact hsz;exact .nil _;intro y hy;refine bV ?_))
 refine⟨?_⟩
 by_cases hneg:y<0
 ·repeat' refine W_ ?_
  exact r1_
 have hx:=hy.2.2 (by omega)
 replace hto:=hto hx
 replace htw:=htw hx
 replace hsp:=hsp hx
 replace him:=him hx
 replace him2:=him2 hx
 replace heq:=heq hx
 replace hnk:=hnk hx
 replace hmk:=hmk hx
 replace hsm:=hsm hx
 have hqs:=qN hst 0 0 sx hsm
 clear hb hy hsz
 repeat' (first|refine H_ 6 ?_|(refine am ?_;intro ss bb)|refine ac ?_|refine ad hG hst (hto) ?_|((with_reducible apply aB);rfl;kernel_rfl;(repeat (first|exact ay.nil|((with_reducible apply ay.cons);rfl)));exact hG;exact hsp;exact .nil _;intro ys hys))
 refine⟨?_⟩
 generalize ss=s4;generalize bb=b4
 repeat' (first|refine H_ 7 ?_|((with_reducible apply aB);rfl;kernel_rfl;(repeat (first|exact ay.nil|((with_reducible apply ay.cons);rfl)));exact hG;exact htw;exact .nil _;intro y hy)|(refine am ?_;intro ss bb)|refine ac ?_)
 refine⟨?_⟩
 generalize ss=s5;generalize bb=b5
 have hl1:=hmk y hy
 clear hmk
 unfold imC at hl1 hvw
 repeat' (first|refine H_ 8 ?_|(refine am ?_;intro ss bb)|refine ac ?_|((with_reducible apply cB);rfl;kernel_rfl;exact hG;exact hst;exact him;((with_reducible apply bD.cons);rfl;exact hvw hy (fun o h=>Zg _ (Zk _ h)));(repeat (first|exact bD.nil|((with_reducible apply bD.cons);rfl;exact bG.same _)));exact hnew;intro yi hyi))
 refine⟨?_⟩
 generalize ss=s7;generalize bb=b7
 refine aV (acW _ _ _ _ _ _) ?_
 repeat' (first|refine HV_ 10 ?_|((with_reducible apply mA);rfl;kernel_rfl;exact hG;exact hst;exact hqs;((with_reducible apply bD.cons);rfl;exact hvs hyi fun o h=>Zg _ (Zg _ (Zg _ (Zk _ h))));((with_reducible apply bD.cons);rfl;exact hvs hys fun o h=>Zg _ (Zg _ (Zg _ (Zj _ (Zj _ (Zk _ h))))));exact .nil)|refine c_ (fun hc=>?_) (fun hc=>?_))
 all_goals first
   | (exfalso;simp at hc;done)
   | skip
 refine⟨?_⟩
 repeat' (first|refine HV_ 13 ?_|refine ai hG hst (hto) ?_|((with_reducible apply afW);rfl;kernel_rfl;exact hG;exact hst;exact heq;((with_reducible apply bD.cons);rfl;exact hvw hy fun o h=>Zg _ (Zg _ (Zg _ (Zj _ (Zk _ h)))));(repeat (first|exact bD.nil|((with_reducible apply bD.cons);rfl;exact bG.same _)))))
 all_goals first
   | (exfalso;simp at hc;done)
   | skip
 refine⟨?_⟩
 repeat' refine W_ ?_
 refine iL (.perm (aeB _ _ _ _ (imO x y) _)) ?_
 repeat' (first|refine HV_ 16 ?_|((with_reducible apply aB);rfl;kernel_rfl;(repeat (first|exact ay.nil|((with_reducible apply ay.cons);rfl)));exact hG;exact hl1;exact .app _ _;rintro ⟨⟩ -;refine cT (.perm (aeB _ _ _ _ _ _).symm) ?_)|((with_reducible apply mA);rfl;kernel_rfl;exact hG;exact hst;exact hqs;((with_reducible apply bD.cons);rfl;exact hvs hyi fun o h=>Zg _ (Zg _ (Zg _ (Zk _ h))));((with_reducible apply bD.cons);rfl;exact hvs hys fun o h=>Zg _ (Zg _ (Zg _ (Zj _ (Zj _ (Zk _ h))))));exact .nil)|refine c_ (fun hc=>?_) (fun hc=>?_))
 all_goals first
   | (exfalso;simp at hc;done)
   | skip
 refine⟨?_⟩
 have hl2:=lw hst sx yi hyi hsm 1 (by omega)
 unfold imC at hl2
 repeat' refine W_ ?_
 refine iL (.perm (aeH _ _ _ (imO sx yi) _)) ?_
 repeat' (first|refine H_ 18 ?_|((with_reducible apply aB);rfl;kernel_rfl;(repeat (first|exact ay.nil|((with_reducible apply ay.cons);rfl)));exact hG;exact hl2;exact .app _ _;rintro ⟨⟩ -;refine cT (.perm (aeH _ _ _ _ _).symm) ?_))
 refine⟨?_⟩
 have hhd:=xP hst 0 sx hsm 1 (by omega)
 have hkS:=qR (x:=sx) hsm 1
 have hvm:∀{objs:aJ},(∀o∈imO (fR 1 sx) yi,o∈objs)->bG objs (.agg (imC sx yi)) (.agg ((fR 1 sx).tw 0)):=fun h=>adO hyi h
 unfold imC at hvm
 generalize jc 1 sx=kq at hhd hkS |-
 repeat' (first|refine H_ 24 ?_|((with_reducible apply mA);rfl;kernel_rfl;exact hG;exact hst;exact hhd;((with_reducible apply bD.cons);rfl;exact hvm fun o h=>Zg _ (Zg _ (Zg _ (Zk _ h))));((with_reducible apply bD.cons);rfl;exact bG.same _);exact bD.nil))
 all_goals first
   | (exfalso;simp at hc;done)
   | skip
 refine⟨?_⟩
 repeat' (first|refine H_ 25 ?_|(refine am ?_;intro ss bb)|refine ac ?_|refine ad hG hst (hto) ?_|((with_reducible apply cB);rfl;kernel_rfl;exact hG;exact hst;exact him2;((repeat (first|exact bD.nil|((with_reducible apply bD.cons);rfl;(first|with_reducible exact bG.same _|((with_reducible apply bG.msAll);(repeat (first|with_reducible exact mh|with_reducible refine mt ?_));(first|with_reducible assumption|exact aw _|exact ae _|exact av _|exact Ze _|assumption|rfl))|((with_reducible apply bH);(repeat (first|with_reducible exact mh|with_reducible refine mt ?_));(first|with_reducible assumption|exact aw _|exact ae _|exact av _|exact Ze _|assumption|rfl))|((with_reducible apply bG.cut);exact bG.cp0 _ _;rfl))))));exact hnew;intro yj hyj))
 refine⟨?_⟩
 generalize ss=s9;generalize bb=b9
 refine aV (abX _ _ _ _ _ _) ?_
 repeat' (first|refine HV_ 28 ?_|((with_reducible apply mA);rfl;kernel_rfl;exact hG;exact hst;exact hqs;((with_reducible apply bD.cons);rfl;exact hvs hyj fun o h=>Zg _ (Zg _ (Zg _ (Zg _ (Zk _ h)))));((with_reducible apply bD.cons);rfl;exact hvs hys fun o h=>Zg _ (Zg _ (Zg _ (Zg _ (Zj _ (Zj _ (Zj _ (Zk _ h))))))));exact .nil)|refine c_ (fun hc=>?_) (fun hc=>?_))
 all_goals first
   | (exfalso;simp at hc;done)
   | skip
 refine⟨?_⟩
 repeat' (first|refine W_ ?_|((with_reducible apply mA);rfl;kernel_rfl;exact hG;exact hst;exact hhd;((with_reducible apply bD.cons);rfl;exact hvm fun o h=>Zg _ (Zg _ (Zg _ (Zg _ (Zj _ (Zk _ h))))));((with_reducible apply bD.cons);rfl;exact bG.same _);exact bD.nil))
 all_goals first
   | (exact r1_)
   | (exfalso;simp at hc;done)
theorem fa (w:World) (t:PT) (x:ah) (hat:gP t x) (hsee:er w (·<w.heap.size) t) (hx:x.sane) (hm:ui w):Calls Tryz.prog 6 #[.agg t.cells.toArray] w fun e w'=>e=.returned (.bool true)/\Below w.heap.size w w':=by
 have h0:0<w.heap.size:=by
   obtain⟨m,hm⟩:=hm
   have:=World.block_lt_of_cell? w _ hm
   omega
 have hok:=afu w _ _ hsee
 have hsm:=wD hat hsee hx
 rw[aa4 hat] at hok
 refine(i7 x hsm w _ h0 hm rfl ?_).mono ?_
 ·intro i t v h1 h2
  match i,h1,h2 with
  | 0,h1,h2 =>
    cases h1;cases h2
    exact .agg _ _ hok.2.1 (by simpa using hok.1) (fun i t v ht hv=>hok.2.2 i t v ht (by simpa using hv))
 ·rintro e w' ⟨v,rfl,hb,hr⟩
  have:=(hr 0 (Zd _)).bool_inv
  subst this
  exact⟨rfl,hb⟩
end Go.Proofs.YtofnnnpahglfdaaGreatDoor
