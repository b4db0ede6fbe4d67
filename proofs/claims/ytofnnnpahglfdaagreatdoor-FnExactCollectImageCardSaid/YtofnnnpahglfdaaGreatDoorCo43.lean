/- Part 43 of the proof: the texts ImU, RcQ, RcR, RcS, RcA, RcB, RcC, RcD, RcT, RcU, RcW, RcX. -/
import Derived.Test.YtofnnnpahglfdaaGreatDoorCo41
import Derived.Test.YtofnnnpahglfdaaGreatDoorCo40
import Derived.Test.YtofnnnpahglfdaaGreatDoorCo27
import Derived.Test.YtofnnnpahglfdaaGreatDoorCo38
import Derived.Test.YtofnnnpahglfdaaGreatDoorCo24
import Derived.Test.YtofnnnpahglfdaaGreatDoorCo3
import Derived.Test.YtofnnnpahglfdaaGreatDoorCo31
import Derived.Test.YtofnnnpahglfdaaGreatDoorCo34
set_option linter.all false
set_option maxHeartbeats 4000000
set_option maxRecDepth 20000
namespace Go.Proofs.YtofnnnpahglfdaaGreatDoor
open Go Go.RowKit
theorem abq (x:ab):x.pt.tvs=x.tw 0:=by simp[PT.tvs,PT.tvsL,ab.pt,ab.tw]
theorem aaw {t:PT} {x:az} (h:gA t x):t.tvs=x.tw 0:=by
 obtain⟨A2,c2,A3,c3,rfl⟩:=h
 simp[PT.tvs,PT.tvsL,az.tw,ab.pt,ab.tw,aL,PT.rowsL_map,Function.comp_def]
theorem abV {t:PT} {x:aR} (h:gI t x):t.tvs=x.tw 0:=by
 obtain⟨A0,c0,l0,A1,c1,l1,A2,c2,h0,h1,rfl⟩:=h
 simp only[PT.tvs,PT.tvsL,aR.tw,oQ h0 (fun _ _=>lF),oQ h1 (fun _ _=>aaw),PT.rowsL_map,List.map_map,Zo,ZD,Zz]
 rfl
theorem xN {t:PT} {x:aq} (h:fj t x):t.tvs=x.tw 0:=by
 obtain⟨A7,c7,A8,c8,A9,c9,rfl⟩:=h
 simp[PT.tvs,PT.tvsL,aq.tw,ab.pt,ab.tw,PT.rowsL_map,Function.comp_def]
theorem aa4 {t:PT} {x:ah} (h:gP t x):t.tvs=x.tw 0:=by
 obtain⟨t0,t1,A2,c2,A3,c3,l3,A4,c4,A5,c5,h0,h1,h3,rfl⟩:=h
 simp only[PT.tvs,PT.tvsL,uI h0,abV h1,ah.tw,aI.tw,aR.tw,oQ h3 (fun _ _=>xN),PT.rowsL_map,List.map_map,Zo,ZD,Zz,abq]
 rfl
theorem ul {w:World} {S:Nat->Prop} {t:PT} {x:az} (h:gA t x) (hs:er w S t) (hx:x.sane):az.small 9223372036854775807 x:=by
 obtain⟨A2,c2,A3,c3,rfl⟩:=h
 simp only[er,cQ] at hs
 obtain⟨_,_,⟨a1,a2,_⟩,⟨b1,b2,_⟩,_⟩:=hs
 simp only[Ze] at a1 b1
 exact⟨⟨ZN a1 a2,fun y hy=>(hx.2.2.1 y hy).2.2⟩,ZN b1 b2⟩
theorem xC {w:World} {S:Nat->Prop} {t:PT} {x:aR} (h:gI t x) (hs:er w S t) (hx:x.sane):aR.small 9223372036854775807 x:=by
 obtain⟨A0,c0,l0,A1,c1,l1,A2,c2,h0,h1,rfl⟩:=h
 simp only[er,cQ] at hs
 obtain⟨⟨a1,a2,_,_,a5⟩,⟨b1,b2,_,_,b5⟩,⟨d1,d2,_,_,_⟩,_⟩:=hs
 simp only[Ze] at d1
 exact⟨⟨by rw[<- h0.1];exact ZN a1 a2,jC h0 a5 (fun _ _=>jh) hx.1⟩,⟨by rw[<- h1.1];exact ZN b1 b2,jC h1 b5 (fun _ _=>ul) hx.2.1⟩,ZN d1 d2,hx.2.2.1⟩
theorem rI {w:World} {S:Nat->Prop} {t:PT} {x:aq} (h:fj t x) (hs:er w S t) (hx:x.sane):aq.small 9223372036854775807 x:=by
 obtain⟨A7,c7,A8,c8,A9,c9,rfl⟩:=h
 simp only[er,cQ] at hs
 obtain⟨_,_,_,_,_,_,_,⟨a1,a2,_⟩,⟨b1,b2,_⟩,⟨d1,d2,_⟩,_⟩:=hs
 simp only[Ze] at a1 b1 d1
 obtain⟨_,_,_,_,_,_,g6,g7,g8,g9,_⟩:=hx
 exact⟨g6.2.2,⟨ZN a1 a2,fun y hy=>(g7 y hy).2.2⟩,⟨ZN b1 b2,fun y hy=>(g8 y hy).2.2⟩,⟨ZN d1 d2,fun y hy=>(g9 y hy).2.2⟩⟩
theorem wD {w:World} {S:Nat->Prop} {t:PT} {x:ah} (h:gP t x) (hs:er w S t) (hx:x.sane):ah.small 9223372036854775807 x:=by
 obtain⟨t0,t1,A2,c2,A3,c3,l3,A4,c4,A5,c5,h0,h1,h3,rfl⟩:=h
 simp only[er,cQ] at hs
 obtain⟨s0,s1,⟨a1,a2,_⟩,⟨b1,b2,_,_,b5⟩,⟨d1,d2,_⟩,⟨e1,e2,_⟩,_⟩:=hs
 simp only[Ze] at a1 d1 e1
 obtain⟨g0,g1,g2,g3,_,_,_,_,g8,g9⟩:=hx
 exact⟨p6 h0 s0 g0,xC h1 s1 g1,⟨ZN a1 a2,fun y hy=>(g2 y hy).2.2.2.2.2⟩,⟨by rw[<- h3.1];exact ZN b1 b2,jC h3 b5 (fun _ _=>rI) g3⟩,⟨ZN d1 d2,fun _ _=>trivial⟩,ZN e1 e2,g8.2.2,g9⟩
theorem od {m:ah} {v:ab} (h:iP m v) (h6:v.kind=6):0<=v.number/\v.number<m.store.objects.length:=by
 unfold iP cD j1 at h
 rw[h6] at h
 simp at h
 omega
structure vP (m:ah):Prop where
 val:iP m m.value
 fld:∀o∈m.store.objects,∀v∈o.fields,iP m v
 one:∀o∈m.store.objects,o.kind=1->o.numbers=[]\/∃a b c,o.numbers=[a,b,c]/\(-1<=a/\a<m.contexts.length)/\(-1<=b/\b<m.contexts.length)
 sem:∀o∈m.store.objects,o.kind=3->1<=o.numbers.length/\∀p∈o.numbers.drop 1,0<=p/\p<m.processes.length
 blk:∀b∈m.blocks,iP m b.self/\(0<=b.outer/\b.outer<m.contexts.length)/\(0<=b.home/\b.home<m.contexts.length)
 ctx:∀(i:Nat) (h:i<m.contexts.length),(-1<=m.contexts[i].sender/\m.contexts[i].sender<i)/\(-1<=m.contexts[i].outer/\m.contexts[i].outer<i)/\(-1<=m.contexts[i].home/\m.contexts[i].home<=i)/\(m.contexts[i].mark=3\/m.contexts[i].mark=5->-1<=m.contexts[i].other/\m.contexts[i].other<i)/\iP m m.contexts[i].self/\(∀v∈m.contexts[i].slots,iP m v)/\(∀v∈m.contexts[i].stack,iP m v)/\∀v∈m.contexts[i].values,iP m v
 prc:∀p∈m.processes,-1<=p.at_/\p.at_<m.contexts.length
 now:0<=m.now/\m.now<m.processes.length
 rdy:∀p∈m.ready,0<=p/\p<m.processes.length
theorem rl {m:ah} {o:List Int} (h:∀(i:Nat) (h:i<m.contexts.length),qe m o i m.contexts[i]=true) (i:Nat):∀h:i<m.contexts.length,m.contexts[i].mark=0->(-1<=m.contexts[i].outer/\m.contexts[i].outer<i)/\0<=m.contexts[i].home/\m.contexts[i].home<=i:=by
 induction i using Nat.strongRecOn with
 | _ i ih =>
   intro hi h0
   have h1:=(fY (h i hi)).2.2.2.2.2
   rw[if_pos h0] at h1
   unfold plB at h1
   simp only[Zm] at h1
   obtain⟨_,_,_,_,h5⟩:=h1
   cases hx:cdA m m.contexts[i].code with
   | none=>rw[hx] at h5;cases h5
   | some x =>
     rw[hx] at h5
     simp only[Zm] at h5
     have h6:=h5.2.2.2
     unfold agZ at h6
     by_cases hb:x.block=true
     ·rw[if_pos hb] at h6
      simp only[Zm] at h6
      have h7:0<=m.contexts[i].outer/\m.contexts[i].outer<=(i:Int) - 1:=of_decide_eq_true h6.1
      obtain⟨q,hq⟩:∃q:Nat,m.contexts[i].outer=q:=⟨m.contexts[i].outer.toNat,by omega⟩
      have hql:q<m.contexts.length:=by omega
      have h8:=h6.2
      rw[hq,jr hql] at h8
      simp only[Zm] at h8
      have h9:=ih q (by omega) hql (of_decide_eq_true h8.1)
      have h10:m.contexts[i].home=m.contexts[q].home:=of_decide_eq_true h8.2.2.1
      omega
     ·rw[if_neg hb] at h6
      simp only[Zm] at h6
      have h7:m.contexts[i].outer=-1:=of_decide_eq_true h6.1
      have h8:m.contexts[i].home=(i:Int):=of_decide_eq_true h6.2
      omega
open Classical in
theorem ahI {m:ah} (h:eD m=true):vP m:=by
 have hi:aeK m:=of_decide_eq_true h
 obtain⟨_,o,ho,_⟩:=gQ hi.ver
 obtain⟨hc,hb⟩:=hi.outs o ho
 have hsd:=oT hc
 have hst:=hi.store
 unfold kb at hst
 simp only[Zm] at hst
 obtain⟨_,_,_,_,_,_,hob⟩:=hst
 have hob:=List.all_eq_true.1 hob
 have hfld:∀o∈m.store.objects,∀v∈o.fields,iP m v:=fun o ho v hv=>by
   have h1:=hob o ho
   unfold f7 at h1
   simp only[Zm] at h1
   exact List.all_eq_true.1 h1.1 v hv
 have hnow:0<=m.now/\m.now<=(m.processes.length:Int) - 1:=of_decide_eq_true hi.now
 have hats:∀p∈m.processes,-1<=p.at_/\p.at_<m.contexts.length:=fun p hp=>by
   have:-1<=p.at_/\p.at_<=(m.contexts.length:Int) - 1:=of_decide_eq_true (hi.ats p hp)
   omega
 have hctx:∀(i:Nat) (h:i<m.contexts.length),(-1<=m.contexts[i].outer/\m.contexts[i].outer<i)/\(-1<=m.contexts[i].home/\m.contexts[i].home<=i)/\(m.contexts[i].mark=3\/m.contexts[i].mark=5->-1<=m.contexts[i].other/\m.contexts[i].other<i):=fun i hil=>by
   by_cases h0:m.contexts[i].mark=0
   ·have:=rl hc i hil h0
    exact⟨this.1,by omega,by omega⟩
   ·have h1:=(fY (hc i hil)).2.2.2.2.2
    rw[if_neg h0] at h1
    simp only[Zm] at h1
    obtain⟨h2,h3,_⟩:=h1
    unfold shB at h2
    simp only[Zm] at h2
    have h4:m.contexts[i].outer=-1:=of_decide_eq_true h2.2.2.1
    have h5:m.contexts[i].home=-1:=of_decide_eq_true h2.2.2.2.1
    refine⟨by omega,by omega, ?_⟩
    unfold ac2 at h3
    rintro (h6|h6)
    ·rw[if_neg (by omega),if_neg (by omega),if_pos h6] at h3
     have h7:∃a,m.contexts[i].values=[a]:=by
       rcases hv:m.contexts[i].values with _|⟨a,_|⟨b,l⟩⟩
       ·rw[hv] at h3;cases h3
       ·exact⟨a,rfl⟩
       ·rw[hv] at h3;cases h3
     obtain⟨a,h7⟩:=h7
     rw[h7,abT] at h3
     simp only[Zm] at h3
     have h8:=h3.2
     unfold doB at h8
     simp only[Zm] at h8
     have h9:0<=m.contexts[i].other/\m.contexts[i].other<=(i:Int) - 1:=of_decide_eq_true h8.1
     omega
    ·rw[if_neg (by omega),if_neg (by omega),if_neg (by omega),if_neg (by omega),if_pos h6] at h3
     simp only[Zm] at h3
     have h9:-1<=m.contexts[i].other/\m.contexts[i].other<=(i:Int) - 1:=of_decide_eq_true h3.1
     omega
 refine⟨hi.value,hfld,fun o ho h1=>?_,fun o ho h3=>?_,fun b hbm=>?_,fun i hil=>?_,hats,by omega,fun p hp=>?_⟩
 ·have h2:=hob o ho
  unfold f7 at h2
  simp only[Zm] at h2
  have h4:=h2.2
  rw[if_pos h1] at h4
  simp only[Zm] at h4
  have h5:o.numbers.length=if vS m.store.classes 1 o.class_ then 3 else 0:=of_decide_eq_true h4.2
  split at h5
  ·obtain⟨a,b,c,h6⟩:=ahn h5
   refine .inr ⟨a,b,c,h6, ?_⟩
   rcases hi.exc o ho h1 a b c h6 with ⟨rfl,rfl,_⟩|⟨_,d,hd,_,ha,hw⟩
   ·omega
   ·obtain⟨hb0,hbl,he⟩:=kQ hd
    have h7:=hsd b.toNat hbl
    rw[he] at h7
    have h8:=ae2 hsd hw (by omega)
    omega
  ·exact .inl (List.length_eq_zero_iff.1 h5)
 ·have h2:=hob o ho
  unfold f7 at h2
  simp only[Zm] at h2
  have h4:=h2.2
  rw[if_neg (by omega),if_neg (by omega),if_pos h3] at h4
  refine⟨(of_decide_eq_true h4).2.2.1,fun p hp=>hi.live.1 p ?_⟩
  refine Zj _ (List.mem_flatMap.2 ⟨o,ho, ?_⟩)
  unfold vH
  rw[if_pos h3]
  exact hp
 ·have h1:=hb b hbm
  unfold jX at h1
  simp only[Zm] at h1
  obtain⟨_,_,h3,h4⟩:=h1
  have h3:0<=b.outer/\b.outer<=(m.contexts.length:Int) - 1:=of_decide_eq_true h3
  obtain⟨q,hq⟩:∃q:Nat,b.outer=q:=⟨b.outer.toNat,by omega⟩
  have hql:q<m.contexts.length:=by omega
  rw[hq,jr hql] at h4
  simp only[Zm] at h4
  obtain⟨h5,_,h6,h7⟩:=h4
  have h8:=rl hc q hql (of_decide_eq_true h5)
  have h6:b.home=m.contexts[q].home:=of_decide_eq_true h6
  have h9:=(fY (hc q hql)).2.1
  rw[<- agx.1 h7] at h9
  exact⟨h9,by omega,by omega⟩
 ·obtain⟨_,g2,g3,g4,g5,_⟩:=fY (hc i hil)
  obtain⟨k1,k2,k3⟩:=hctx i hil
  exact⟨hsd i hil,k1,k2,k3,g2,ly g3,ly g4,ly g5⟩
 ·exact hi.live.1 p (Zk _ (Zj _ hp))
theorem afK {m:ah} {v:ab} (h:iP m v) {y:Nd} (hy:y∈eg v):inN m y:=by
 unfold eg at hy
 split at hy
 ·rename_i h6
  have:=od h h6
  rw[Zy] at hy
  subst hy
  show _<_
  omega
 ·split at hy
  ·rename_i h7
   have:=lq h h7
   rw[Zy] at hy
   subst hy
   show _<_
   omega
  ·simp at hy
def unL (l:List Bool):Nat:=(l.filter (! ·)).length
def Mk4.un (s:Mk4):Nat:=unL s.o+(unL s.b+(unL s.c+unL s.p))
theorem k8:∀{a b:List Bool},a.length=b.length->(∀n:Nat,a[n]?=some true->b[n]?=some true)->unL b<=unL a
 | [],[],_,_=>Zf _
 | x::a,y::b,hl,h=>by
   have h0:=h 0
   have ih:=k8 (a:=a) (b:=b) (by simpa using hl) (fun n hn=>by simpa using h (n+1) (by simpa using hn))
   unfold unL at ih |-
   cases x <;> cases y <;> simp_all <;> omega
 | [],_::_,hl,_=>by simp at hl
 | _::_,[],hl,_=>by simp at hl
theorem pK:∀{l:List Bool} {n:Nat},n<l.length->¬ l[n]?=some true->unL (l.set n true)+1=unL l
 | [],n,h,_=>by simp at h
 | x::l,0,_,h=>by
   cases x
   ·simp[unL]
   ·simp at h
 | x::l,n+1,h,h2=>by
   have ih:=pK (l:=l) (n:=n) (by simpa using h) (by simpa using h2)
   unfold unL at ih |-
   cases x <;> simp[List.set_cons_succ] at ih |- <;> omega
theorem Mk4.un_mono {m:ah} {s t:Mk4} (hs:s.fits m) (ht:t.fits m) (h:∀x,s.has x->t.has x):t.un<=s.un:=by
 obtain⟨a1,a2,a3,a4⟩:=hs
 obtain⟨b1,b2,b3,b4⟩:=ht
 have h1:=k8 (a:=s.o) (b:=t.o) (by omega) fun n=>h (.obj n)
 have h2:=k8 (a:=s.b) (b:=t.b) (by omega) fun n=>h (.blk n)
 have h3:=k8 (a:=s.c) (b:=t.c) (by omega) fun n=>h (.ctx n)
 have h4:=k8 (a:=s.p) (b:=t.p) (by omega) fun n=>h (.prc n)
 unfold Mk4.un
 omega
theorem Mk4.un_set {m:ah} {s:Mk4} (hs:s.fits m) {x:Nd} (hx:inN m x) (h:¬ s.has x):(s.set x).un+1=s.un:=by
 obtain⟨a1,a2,a3,a4⟩:=hs
 cases x <;> simp only[inN,Mk4.has] at hx h
 ·have:=pK (l:=s.o) (by omega) h
  simp only[Mk4.un,Mk4.set];omega
 ·have:=pK (l:=s.b) (by omega) h
  simp only[Mk4.un,Mk4.set];omega
 ·have:=pK (l:=s.c) (by omega) h
  simp only[Mk4.un,Mk4.set];omega
 ·have:=pK (l:=s.p) (by omega) h
  simp only[Mk4.un,Mk4.set];omega
structure ac8 (m:ah) (L K:List Nd) (s t:Mk4):Prop where
 fits:t.fits m
 mono:∀x,s.has x->t.has x
 all:∀x∈L,t.has x\/x∈K
 new:∀x,t.has x->s.has x\/(Rch m x/\∀y∈iI m x,t.has y\/y∈K)
theorem ac8.start {m:ah} {L:List Nd} {s:Mk4} (hs:s.fits m):ac8 m L L s s:=⟨hs,fun _ h=>h,fun _ h=>.inr h,fun _ h=>.inl h⟩
theorem ac8.done {m:ah} {L K:List Nd} {s t:Mk4} (h:ac8 m L K s t) (hk:∀x∈K,t.has x):gR m L s t :=
 ⟨h.fits,h.mono,fun x hx=>(h.all x hx).elim id (hk x),fun x hx=>(h.new x hx).imp id fun⟨h1,h2⟩=>⟨h1,fun y hy=>(h2 y hy).elim id (hk y)⟩⟩
theorem ac8.step {m:ah} {L A B:List Nd} {s t u:Mk4} {x:Nd} (h:ac8 m L [x] s t) (hx:inN m x) (hr:Rch m x) (hsuc:∀y∈iI m x,y∈A\/y∈B) (hp:gR m B (t.set x) u):ac8 m L A s u:=by
 have hxu:u.has x:=hp.mono x ((Mk4.has_set h.fits hx).2 (.inr rfl))
 have hm:∀y,t.has y->u.has y:=fun y hy=>hp.mono y ((Mk4.has_set h.fits hx).2 (.inl hy))
 have hk:∀y,t.has y\/y∈[x]->u.has y:=fun y hy=>hy.elim (hm y) fun e=>by rw[Zy] at e;exact e ▸ hxu
 refine⟨hp.fits,fun y hy=>hm y (h.mono y hy),fun y hy=>.inl (hk y (h.all y hy)),fun y hy=>?_⟩
 rcases hp.new y hy with hy|hy
 ·rcases(Mk4.has_set h.fits hx).1 hy with hy|rfl
  ·exact(h.new y hy).imp id fun⟨h1,h2⟩=>⟨h1,fun z hz=>.inl (hk z (h2 z hz))⟩
  ·exact .inr ⟨hr,fun z hz=>(hsuc z hz).elim .inr fun hb=>.inl (hp.all z hb)⟩
 ·exact .inr ⟨hy.1,fun z hz=>.inl (hy.2 z hz)⟩
def Rp:Type:=(Nat×Nat)×(Nat×Nat)×(Nat×Nat)×(Nat×Nat)
def bR (l:List Bool):List (List TV):=l.map fun b=>[TV.bool b]
theorem ff (l:List Bool):(bR l).length=l.length:=by simp[bR]
theorem mK (l:List Bool) (n:Nat):(bR l).set n [TV.bool true]=bR (l.set n true):=by simp[bR,Ys]
theorem fe {l:List Bool} {n:Nat} (h:n<l.length):(bR l)[n]?=some [TV.bool l[n]]:=aK h
def rcO (s b f lo:Nat) (m:ah) (q:Rp) (t:Mk4):aJ :=
 [(s,b,.box [.cp f (m.tw lo),.ms q.1.1 q.1.2 0 t.o.length,.ms q.2.1.1 q.2.1.2 0 t.b.length,.ms q.2.2.1.1 q.2.2.1.2 0 t.c.length,.ms q.2.2.2.1 q.2.2.2.2 0 t.p.length]),
  (q.1.1,q.1.2,.row 1 (bR t.o)),(q.2.1.1,q.2.1.2,.row 1 (bR t.b)),(q.2.2.1.1,q.2.2.1.2,.row 1 (bR t.c)),(q.2.2.2.1,q.2.2.2.2,.row 1 (bR t.p))]
def ndV (v:ab):Nd:=if v.kind=6 then .obj v.number.toNat else if v.kind=7 then .blk v.number.toNat else if v.kind=8 then .ctx v.number.toNat else .prc v.number.toNat
structure OkV (m:ah) (v:ab):Prop where
 lo:6<=v.kind
 hi:v.kind<=9
 num:0<=v.number
 inn:inN m (ndV v)
def zI (m:ah):Nat:=m.store.objects.length+(m.blocks.length+(m.contexts.length+m.processes.length))
structure Wk (m:ah) (s:Mk4×List ab):Prop where
 fits:s.1.fits m
 iff:∀x,s.1.has x↔∃v∈s.2,ndV v=x
 ok:∀v∈s.2,OkV m v
 rch:∀v∈s.2,Rch m (ndV v)
 cnt:s.2.length+s.1.un=zI m
structure Wp (m:ah) (K:List Nd) (s u:Mk4×List ab):Prop where
 wk:Wk m u
 mono:∀x,s.1.has x->u.1.has x
 all:∀x∈K,u.1.has x
 ext:∃A,u.2=s.2++A
theorem Wp.refl {m:ah} {K:List Nd} {s:Mk4×List ab} (h:Wk m s) (hk:∀x∈K,s.1.has x):Wp m K s s:=⟨h,fun _ h=>h,hk,[],by simp⟩
theorem Wp.trans {m:ah} {K L:List Nd} {s u w:Mk4×List ab} (h:Wp m K s u) (k:Wp m L u w):Wp m (K++L) s w :=
 ⟨k.wk,fun x hx=>k.mono x (h.mono x hx),fun x hx=>by
   rcases List.mem_append.1 hx with hx|hx
   ·exact k.mono x (h.all x hx)
   ·exact k.all x hx,by
   obtain⟨A,hA⟩:=h.ext
   obtain⟨B,hB⟩:=k.ext
   exact⟨A++B,by rw[hB,hA,Zh]⟩⟩
theorem Wp.sub {m:ah} {K L:List Nd} {s u:Mk4×List ab} (h:Wp m L s u) (hk:∀x∈K,x∈L):Wp m K s u:=⟨h.wk,h.mono,fun x hx=>h.all x (hk x hx),h.ext⟩
theorem Wp.mark {m:ah} {s:Mk4×List ab} {v:ab} (h:Wk m s) (ho:OkV m v) (hr:Rch m (ndV v)) (hn:¬ s.1.has (ndV v)):Wp m [ndV v] s (s.1.set (ndV v),s.2++[v]) :=
 ⟨⟨Mk4.set_fits h.fits _, fun x => by
     rw[Mk4.has_set h.fits ho.inn,h.iff x]
     constructor
     ·rintro (⟨w,hw,hx⟩|rfl)
      ·exact⟨w,Zk _ hw,hx⟩
      ·exact⟨v,Zj _ (List.mem_singleton.2 rfl),rfl⟩
     ·rintro ⟨w,hw,hx⟩
      rcases List.mem_append.1 hw with hw|hw
      ·exact .inl ⟨w,hw,hx⟩
      ·rw[Zy] at hw
       subst hw
       exact .inr hx.symm,fun w hw=>by
     rcases List.mem_append.1 hw with hw|hw
     ·exact h.ok w hw
     ·rw[Zy] at hw
      subst hw
      exact ho,fun w hw=>by
     rcases List.mem_append.1 hw with hw|hw
     ·exact h.rch w hw
     ·rw[Zy] at hw
      subst hw
      exact hr,by
     have h1:=Mk4.un_set h.fits ho.inn hn
     have h2:=h.cnt
     simp only[Zs,Y6]
     omega⟩,fun x hx=>(Mk4.has_set h.fits ho.inn).2 (.inl hx),fun x hx=>by
   rw[Zy] at hx
   exact(Mk4.has_set h.fits ho.inn).2 (.inr hx),[v],rfl⟩
theorem Wk.len {m:ah} {s:Mk4×List ab} (h:Wk m s):s.2.length<=zI m:=by
 have:=h.cnt
 omega
theorem afe (n:Nat):unL (List.replicate n false)=n:=by
 induction n with
 | zero=>rfl
 | succ n ih=>unfold unL at ih |-;simp[ZY] 
theorem Wk.start (m:ah):Wk m (ig m,[]) :=
 ⟨⟨by simp[ig],by simp[ig],by simp[ig],by simp[ig]⟩,fun x=>⟨fun h=>absurd h pv,fun⟨_,h,_⟩=>by simp at h⟩,fun _ h=>by simp at h,fun _ h=>by simp at h,by
   simp only[ig,Mk4.un,afe,zI,Y4]
   omega⟩
structure Wd (m:ah) (i:Nat) (s:Mk4×List ab):Prop where
 wk:Wk m s
 le:i<=s.2.length
 roots:∀x∈ku m,s.1.has x
 done:∀(j:Nat) (v:ab),j<i->s.2[j]?=some v->∀x∈iI m (ndV v),s.1.has x
theorem Wd.start {m:ah} {s:Mk4×List ab} (h:Wp m (ku m) (ig m,[]) s):Wd m 0 s:=⟨h.wk,Zd _,h.all,fun _ _ hj=>absurd hj (Xj _)⟩
theorem Wd.next {m:ah} {i:Nat} {s u:Mk4×List ab} {v:ab} (h:Wd m i s) (hv:s.2[i]?=some v) (k:Wp m (iI m (ndV v)) s u):Wd m (i+1) u:=by
 obtain⟨A,hA⟩:=k.ext
 have hi:i<s.2.length:=by
   rcases Yx i s.2.length with h|h
   ·exact h
   ·rw[YA h] at hv;cases hv
 refine⟨k.wk,by rw[hA,Zs];omega,fun x hx=>k.mono x (h.roots x hx),fun j w hj hw x hx=>?_⟩
 rw[hA,Zv (by omega)] at hw
 rcases Yx j i with hji|hji
 ·exact k.mono x (h.done j w hji hw x hx)
 ·obtain rfl:j=i:=by omega
  rw[hv] at hw
  obtain rfl:=Option.some.inj hw
  exact k.all x hx
theorem Wd.full {m:ah} {s:Mk4×List ab} (h:Wd m s.2.length s):yY m s.1 :=
 ⟨h.wk.fits,fun x=>⟨fun hx=>by
   obtain⟨v,hv,rfl⟩:=(h.wk.iff x).1 hx
   exact h.wk.rch v hv,fun hx=>by
   induction hx with
   | root x hx=>exact h.roots x hx
   | step x y _ hs ih =>
     obtain⟨v,hv,rfl⟩:=(h.wk.iff x).1 ih
     obtain⟨j,hj,he⟩:=List.mem_iff_getElem.1 hv
     exact h.done j v hj (by rw[Za hj,he]) y hs⟩⟩
theorem afF {v:ab} (h:eg v≠[]):(v.kind=6\/v.kind=7)/\eg v=[ndV v]:=by
 unfold eg at h |-
 unfold ndV
 by_cases h6:v.kind=6
 ·simp[h6]
 ·by_cases h7:v.kind=7
  ·simp[h7]
  ·simp[h6,h7] at h
def agi (k:Int):ab:=⟨8,k,⟨#[]⟩⟩
def tF (k:Int):ab:=⟨9,k,⟨#[]⟩⟩
inductive rn (m:ah) (v:ab):List Nd->Prop
 | yes (h:OkV m v) (hr:Rch m (ndV v)):rn m v [ndV v]
 | no (h:v.kind<6\/9<v.kind\/v.number<0):rn m v []
theorem fo {m:ah} {v:ab} (h:iP m v) (hr:∀x∈eg v,Rch m x):rn m v (eg v):=by
 by_cases he:eg v=[]
 ·rw[he]
  refine .no ?_
  unfold iP cD j1 at h
  unfold eg at he
  by_cases h6:v.kind=6
  ·simp[h6] at he
  ·by_cases h7:v.kind=7
   ·simp[h7] at he
   ·rcases Int.lt_or_lt_of_ne h6 with h8|h8
    ·exact .inl h8
    ·refine .inr ?_
     have:¬ v.kind=8/\¬ v.kind=9:=by
       constructor
       ·intro h9;rw[h9] at h;simp at h
       ·intro h9;rw[h9] at h;simp at h
     omega
 ·obtain⟨h1,h2⟩:=afF he
  have hin:inN m (ndV v):=afK h (by rw[h2];exact List.mem_singleton.2 rfl)
  rw[h2] at hr |-
  refine .yes ⟨by omega,by omega, ?_,hin⟩ (hr _ (List.mem_singleton.2 rfl))
  rcases h1 with h6|h7
  ·exact(od h h6).1
  ·exact(lq h h7).1
theorem aah {m:ah} {k:Int} (h:k<m.contexts.length) (hr:∀x∈fb k,Rch m x):rn m (agi k) (fb k):=by
 unfold fb at hr |-
 by_cases h0:0<=k
 ·rw[if_pos h0] at hr |-
  have e:ndV (agi k)=.ctx k.toNat:=rfl
  rw[<- e] at hr |-
  exact .yes ⟨(by decide:(6:Int)<=8),(by decide:(8:Int)<=9),h0,by rw[e];show _<_;omega⟩ (hr _ (List.mem_singleton.2 rfl))
 ·rw[if_neg h0]
  exact .no (.inr (.inr (by show k<0;omega)))
theorem jS {m:ah} {k:Int} (h0:0<=k) (h:k<m.processes.length) (hr:Rch m (.prc k.toNat)):rn m (tF k) [.prc k.toNat]:=by
 have e:ndV (tF k)=.prc k.toNat:=rfl
 rw[<- e] at hr |-
 exact .yes ⟨(by decide:(6:Int)<=9),(by decide:(9:Int)<=9),h0,by rw[e];show _<_;omega⟩ hr
def wkO (s b:Nat) (q:Rp) (z:Nat×Nat) (t:Mk4×List ab):aJ :=
 [(s,b,.box [.ms q.1.1 q.1.2 0 t.1.o.length,.ms q.2.1.1 q.2.1.2 0 t.1.b.length,.ms q.2.2.1.1 q.2.2.1.2 0 t.1.c.length,.ms q.2.2.2.1 q.2.2.2.2 0 t.1.p.length,.ms z.1 z.2 0 t.2.length]),
  (q.1.1,q.1.2,.row 1 (bR t.1.o)),(q.2.1.1,q.2.1.2,.row 1 (bR t.1.b)),(q.2.2.1.1,q.2.2.1.2,.row 1 (bR t.1.c)),(q.2.2.2.1,q.2.2.2.2,.row 1 (bR t.1.p)),(z.1,z.2,.row 3 (t.2.map (ab.tw 0)))]
def wkC (G:World->Prop) (s b:Nat) (m:ah) (q:Rp) (fn:Nat) (args:List TV) (K:List Nd):Prop :=
 ∀(t:Mk4×List ab) (z:Nat×Nat),Wk m t->CtM Tryz.prog G fn args (wkO s b q z t) (fun y:(Nat×Nat)×(Mk4×List ab)=>Wp m K t y.2) (fun y=>wkO s b q y.1 y.2) (fun _=>.tup [])
theorem dP (a b c d e x:Nat×Nat×aW) (R:aJ):bW (a::b::c::d::e::x::R) (x::a::b::c::d::e::R):=.perm (by
 have h:=ce (n:=7) [[x],[a],[b],[c],[d],[e],R] [1,2,3,4,5,0,6] rfl (by decide)
 simpa using h)
def rcC (G:World->Prop) (s b f lo:Nat) (m:ah) (q:Rp) (fn:Nat) (args:List TV) (L:List Nd) (n:Nat):Prop :=
 ∀t:Mk4,t.fits m->t.un<=n->CtM Tryz.prog G fn (.mp s b 0::args) (rcO s b f lo m q t) (fun u:Mk4=>gR m L t u) (fun u=>rcO s b f lo m q u) (fun _=>.tup [])
structure RcH (G:World->Prop) (s b f lo:Nat) (m:ah) (q:Rp) (n:Nat):Prop where
 val:∀v:ab,iP m v->(∀x∈eg v,Rch m x)->rcC G s b f lo m q 171 [.agg [.int .i64 v.kind,.int .i64 v.number,.str v.text]] (eg v) n
 vals:∀l:List ab,l.length<=1048576->(∀v∈l,iP m v)->(∀x∈l.flatMap eg,Rch m x)->rcC G s b f lo m q 287 [.sl lo 3 (l.map (ab.tw lo))] (l.flatMap eg) n
 ctx:∀k:Int,-1<=k->k<m.contexts.length->(∀x∈fb k,Rch m x)->rcC G s b f lo m q 236 [.int .i64 k] (fb k) n
 prc:∀k:Nat,k<m.processes.length->Rch m (.prc k)->rcC G s b f lo m q 170 [.int .i64 (k:Int)] [.prc k] n
section
variable {G:World->Prop} {s b f lo:Nat} {m:ah} {q:Rp}
theorem acr {t:Mk4} {k:Nat} (h:k<t.p.length):t.has (.prc k)↔t.p[k]=true:=by
 simp[Mk4.has,h]
theorem abw (hst:aC G) (hN:vP m) (hsm:m.small 1048576) (n:Nat) (hA:∀n'<n,RcH G s b f lo m q n') (k:Nat) (hk:k<m.processes.length) (hr:Rch m (.prc k)):rcC G s b f lo m q 170 [.int .i64 (k:Int)] [.prc k] n:=by
 intro t hf hun
 refine aA Tryz.func170 rfl Tryz.ntmps170 rfl rfl rfl fun w0 R gs objsR hG hR=>?_
 obtain rfl:=hR.eq
 clear hR
 have hp1:=hsm.2.2.2.2.1.1
 have hlp:=ao.len lo m.processes
 have hkt:k<t.p.length:=by rw[hf.2.2.2];exact hk
 have hrow:=fe hkt
 have hbl:=ff t.p
 have htp:=hf.2.2.2
 have hhas:=acr hkt
 by_cases hm:t.p[k]=true
 ·rw[hm] at hrow
  refine aV (objs':=(s,b,_)::(q.1.1,q.1.2,_)::(q.2.1.1,q.2.1.2,_)::(q.2.2.1.1,q.2.2.1.2,_)::(q.2.2.2.1,q.2.2.2.2,_)::R) (bK rfl) ?_
  repeat' refine W_ ?_
  exact bC x_ rfl t (gR.refl hf fun x hx=>by rw[Zy] at hx;exact hx ▸ hhas.2 hm) rfl (.app _ R) (.refl _) rfl
 ·have hm2:t.p[k]=false:=by simpa using hm
  rw[hm2] at hrow
  have hnh:¬ t.has (.prc k):=fun h=>hm (hhas.1 h)
  have hus:=Mk4.un_set hf (x:=.prc k) hk hnh
  have hfs:=Mk4.set_fits hf (.prc k)
  have hpr:=Zb hk
  have hat:=hN.prc _ hpr
  have hsuc:iI m (.prc k)=fb m.processes[k].at_:=by simp[iI,hk]
  have hrc:∀x∈fb m.processes[k].at_,Rch m x:=fun x hx=>.step _ _ hr (by rw[hsuc];exact hx)
  have hct:=(hA (n - 1) (by omega)).ctx m.processes[k].at_ hat.1 hat.2 hrc (t.set (.prc k)) hfs (by omega)
  have hpo:=fun(u:Mk4) (h:gR m (fb m.processes[k].at_) (t.set (.prc k)) u)=>gR.mark (m:=m) (x:=.prc k) hf hk hr (by rw[hsuc];exact h)
  have hrow2:(m.processes.map (ao.tw lo))[k]?=some [.int .i64 m.processes[k].at_,.bool m.processes[k].main]:=aK hk
  have hset:(s,b,aW.box [.cp f (m.tw lo),.ms q.1.1 q.1.2 0 t.o.length,.ms q.2.1.1 q.2.1.2 0 t.b.length,.ms q.2.2.1.1 q.2.2.1.2 0 t.c.length,.ms q.2.2.2.1 q.2.2.2.2 0 t.p.length])::(q.1.1,q.1.2,aW.row 1 (bR t.o))::(q.2.1.1,q.2.1.2,aW.row 1 (bR t.b))::(q.2.2.1.1,q.2.2.1.2,aW.row 1 (bR t.c))::(q.2.2.2.1,q.2.2.2.2,aW.row 1 ((bR t.p).set k [.bool true]))::R=rcO s b f lo m q (t.set (.prc k))++R:=by simp[rcO,Mk4.set,mK]
  refine aV (objs':=(s,b,_)::(q.1.1,q.1.2,_)::(q.2.1.1,q.2.1.2,_)::(q.2.2.1.1,q.2.2.1.2,_)::(q.2.2.2.1,q.2.2.2.2,_)::R) (bK rfl) ?_
  generalize m.processes[k]=pr at hct hrow2 hpo hat
  unfold ah.tw
  repeat' (first|refine W_ ?_|refine bm ?_)
  refine iL (bK hset.symm) ?_
  repeat' (first|refine W_ ?_|((with_reducible apply aB);rfl;kernel_rfl;(repeat (first|exact ay.nil|((with_reducible apply ay.cons);rfl)));exact hG;exact hct;exact .app _ _;intro u hu))
  exact bC x_ rfl u (hpo u hu) rfl (.app _ R) (.refl _) rfl
theorem ach {t:Mk4} {k:Nat} (h:k<t.b.length):t.has (.blk k)↔t.b[k]=true:=by
 simp[Mk4.has,h]
theorem afl (hst:aC G) (hN:vP m) (hsm:m.small 1048576) (n:Nat) (hA:∀n'<n,RcH G s b f lo m q n') (k:Nat) (hk:k<m.blocks.length) (hr:Rch m (.blk k)):rcC G s b f lo m q 238 [.int .i64 (k:Int)] [.blk k] n:=by
 intro t hf hun
 refine aA Tryz.func238 rfl Tryz.ntmps238 rfl rfl rfl fun w0 R gs objsR hG hR=>?_
 obtain rfl:=hR.eq
 clear hR
 have hp1:=hsm.2.2.1.1
 have hlp:=ap.len lo m.blocks
 have hkt:k<t.b.length:=by rw[hf.2.1];exact hk
 have hrow:=fe hkt
 have hbl:=ff t.b
 have htp:=hf.2.1
 have hhas:=ach hkt
 by_cases hm:t.b[k]=true
 ·rw[hm] at hrow
  refine aV (objs':=(s,b,_)::(q.1.1,q.1.2,_)::(q.2.1.1,q.2.1.2,_)::(q.2.2.1.1,q.2.2.1.2,_)::(q.2.2.2.1,q.2.2.2.2,_)::R) (bK rfl) ?_
  repeat' refine W_ ?_
  exact bC x_ rfl t (gR.refl hf fun x hx=>by rw[Zy] at hx;exact hx ▸ hhas.2 hm) rfl (.app _ R) (.refl _) rfl
 ·have hm2:t.b[k]=false:=by simpa using hm
  rw[hm2] at hrow
  have hnh:¬ t.has (.blk k):=fun h=>hm (hhas.1 h)
  have hus:=Mk4.un_set hf (x:=.blk k) hk hnh
  have hfs:=Mk4.set_fits hf (.blk k)
  obtain⟨hv,hou,_⟩:=hN.blk _ (Zb hk)
  have hsuc:iI m (.blk k)=fb m.blocks[k].outer++eg m.blocks[k].self:=by simp[iI,hk]
  have hrc:∀x∈iI m (.blk k),Rch m x:=fun x hx=>.step _ _ hr hx
  rw[hsuc] at hrc
  have hct:=(hA (n - 1) (by omega)).ctx m.blocks[k].outer (by omega) hou.2 (fun x hx=>hrc x (Zk _ hx)) (t.set (.blk k)) hfs (by omega)
  have hvt:=fun(u:Mk4) (hu:u.fits m) (h:u.un<=n - 1)=>(hA (n - 1) (by omega)).val m.blocks[k].self hv (fun x hx=>hrc x (Zj _ hx)) u hu h
  have hpo:=fun(u:Mk4) (h:gR m (fb m.blocks[k].outer++eg m.blocks[k].self) (t.set (.blk k)) u)=>gR.mark (m:=m) (x:=.blk k) hf hk hr (by rw[hsuc];exact h)
  have hrow2:=mb (lo:=lo) hk
  have hset:(s,b,aW.box [.cp f (m.tw lo),.ms q.1.1 q.1.2 0 t.o.length,.ms q.2.1.1 q.2.1.2 0 t.b.length,.ms q.2.2.1.1 q.2.2.1.2 0 t.c.length,.ms q.2.2.2.1 q.2.2.2.2 0 t.p.length])::(q.1.1,q.1.2,aW.row 1 (bR t.o))::(q.2.1.1,q.2.1.2,aW.row 1 ((bR t.b).set k [.bool true]))::(q.2.2.1.1,q.2.2.1.2,aW.row 1 (bR t.c))::(q.2.2.2.1,q.2.2.2.2,aW.row 1 (bR t.p))::R=rcO s b f lo m q (t.set (.blk k))++R:=by simp[rcO,Mk4.set,mK]
  refine aV (objs':=(s,b,_)::(q.1.1,q.1.2,_)::(q.2.1.1,q.2.1.2,_)::(q.2.2.1.1,q.2.2.1.2,_)::(q.2.2.2.1,q.2.2.2.2,_)::R) (bK rfl) ?_
  generalize m.blocks[k]=pr at hct hrow2 hpo hvt hou
  unfold ah.tw
  repeat' (first|refine W_ ?_|refine bm ?_)
  refine iL (bK hset.symm) ?_
  repeat' (first|refine W_ ?_|((with_reducible apply aB);rfl;kernel_rfl;(repeat (first|exact ay.nil|((with_reducible apply ay.cons);rfl)));exact hG;exact hct;exact .app _ _;intro u hu;refine aT (objs':=(s,b,_)::(q.1.1,q.1.2,_)::(q.2.1.1,q.2.1.2,_)::(q.2.2.1.1,q.2.2.1.2,_)::(q.2.2.2.1,q.2.2.2.2,_)::R) rfl ?_;unfold ah.tw))
  have hv2:=hvt u hu.fits (ZN (Mk4.un_mono hfs hu.fits hu.mono) (by omega))
  repeat' (first|refine W_ ?_|((with_reducible apply aB);rfl;kernel_rfl;(repeat (first|exact ay.nil|((with_reducible apply ay.cons);rfl)));exact hG;exact hv2;exact .cons _ _ _ _ (.cons _ _ _ _ (.cons _ _ _ _ (.cons _ _ _ _ (.cons _ _ _ _ (.nil _)))));intro u2 hu2))
  exact bC x_ rfl u2 (hpo u2 (hu.trans hu2)) rfl (.app _ R) (.refl _) rfl
end
section
variable {G:World->Prop} {s b f lo:Nat} {m:ah} {q:Rp}
theorem abr {t:Mk4} {k:Nat} (h:k<t.o.length):t.has (.obj k)↔t.o[k]=true:=by
 simp[Mk4.has,h]
theorem adJ (hst:aC G) (hN:vP m) (hsm:m.small 1048576) (n:Nat) (hA:∀n'<n,RcH G s b f lo m q n') (k:Nat) (hk:k<m.store.objects.length) (hr:Rch m (.obj k)):rcC G s b f lo m q 237 [.int .i64 (k:Int)] [.obj k] n:=by
 intro t hf hun
 refine aA Tryz.func237 rfl Tryz.ntmps237 rfl rfl rfl fun w0 R gs objsR hG hR=>?_
 obtain rfl:=hR.eq
 clear hR
 have hp1:=hsm.2.1.2.1.1
 have hlp:=az.len lo m.store.objects
 have hkt:k<t.o.length:=by rw[hf.1];exact hk
 have hrow:=fe hkt
 have hbl:=ff t.o
 have htp:=hf.1
 have hhas:=abr hkt
 by_cases hm:t.o[k]=true
 ·rw[hm] at hrow
  refine aV (objs':=(s,b,_)::(q.1.1,q.1.2,_)::(q.2.1.1,q.2.1.2,_)::(q.2.2.1.1,q.2.2.1.2,_)::(q.2.2.2.1,q.2.2.2.2,_)::R) (bK rfl) ?_
  repeat' refine W_ ?_
  exact bC x_ rfl t (gR.refl hf fun x hx=>by rw[Zy] at hx;exact hx ▸ hhas.2 hm) rfl (.app _ R) (.refl _) rfl
 ·have hm2:t.o[k]=false:=by simpa using hm
  rw[hm2] at hrow
  have hnh:¬ t.has (.obj k):=fun h=>hm (hhas.1 h)
  have hus:=Mk4.un_set hf (x:=.obj k) hk hnh
  have hfs:=Mk4.set_fits hf (.obj k)
  have hmem:=Zb hk
  have hfl:=hN.fld _ hmem
  have hone:=hN.one _ hmem
  have hsem:=hN.sem _ hmem
  have hosm:=hsm.2.1.2.1.2 _ hmem
  have hsuc:iI m (.obj k)=zG m.store.objects[k]:=by simp[iI,hk]
  have hrc:∀x∈iI m (.obj k),Rch m x:=fun x hx=>.step _ _ hr hx
  rw[hsuc] at hrc
  have hAn:=hA (n - 1) (by omega)
  have hpo:=fun(u:Mk4) (h:gR m (zG m.store.objects[k]) (t.set (.obj k)) u)=>gR.mark (m:=m) (x:=.obj k) hf hk hr (by rw[hsuc];exact h)
  have hrow2:=lT (lo:=lo) hk
  have hset:∀R',(s,b,aW.box [.cp f (m.tw lo),.ms q.1.1 q.1.2 0 t.o.length,.ms q.2.1.1 q.2.1.2 0 t.b.length,.ms q.2.2.1.1 q.2.2.1.2 0 t.c.length,.ms q.2.2.2.1 q.2.2.2.2 0 t.p.length])::(q.1.1,q.1.2,aW.row 1 ((bR t.o).set k [.bool true]))::(q.2.1.1,q.2.1.2,aW.row 1 (bR t.b))::(q.2.2.1.1,q.2.2.1.2,aW.row 1 (bR t.c))::(q.2.2.2.1,q.2.2.2.2,aW.row 1 (bR t.p))::R'=rcO s b f lo m q (t.set (.obj k))++R':=fun R'=>by simp[rcO,Mk4.set,mK]
  refine aV (objs':=(s,b,_)::(q.1.1,q.1.2,_)::(q.2.1.1,q.2.1.2,_)::(q.2.2.1.1,q.2.2.1.2,_)::(q.2.2.2.1,q.2.2.2.2,_)::R) (bK rfl) ?_
  generalize m.store.objects[k]=o at hrow2 hpo hfl hone hsem hosm hrc
  have h1:=hAn.vals o.fields hosm.1.1 hfl (fun x hx=>hrc x (Zk _ hx)) (t.set (.obj k)) hfs (by omega)
  unfold ah.tw
  repeat' (first|refine H_ 3 ?_|refine bm ?_|(refine am ?_;intro ss bb)|refine ac ?_)
  refine⟨?_⟩
  generalize ss=s4;generalize bb=b4
  refine aV (.trans (bK (hset _).symm) (dP _ _ _ _ _ _ _)) ?_
  refine aV (objs':=(s,b,_)::(q.1.1,q.1.2,_)::(q.2.1.1,q.2.1.2,_)::(q.2.2.1.1,q.2.2.1.2,_)::(q.2.2.2.1,q.2.2.2.2,_)::(s4,b4,_)::R) (bK rfl) ?_
  repeat' (first|refine H_ 4 ?_|((with_reducible apply aB);rfl;kernel_rfl;(repeat (first|exact ay.nil|((with_reducible apply ay.cons);rfl)));exact hG;exact h1;exact .cons _ _ _ _ (.cons _ _ _ _ (.cons _ _ _ _ (.cons _ _ _ _ (.cons _ _ _ _ (.nil _)))));intro u1 hu1;refine aT (objs':=(s,b,_)::(q.1.1,q.1.2,_)::(q.2.1.1,q.2.1.2,_)::(q.2.2.1.1,q.2.2.1.2,_)::(q.2.2.2.1,q.2.2.2.2,_)::(s4,b4,_)::R) rfl ?_))
  refine⟨?_⟩
  have hq1:=ZN (Mk4.un_mono hfs hu1.fits hu1.mono) (show _<=n - 1 by omega)
  have hll:=ae o.numbers
  by_cases hk1:o.kind=1
  ·have hk3:¬ o.kind=3:=by omega
   rcases hone hk1 with hnil|⟨a,c,d,hnum,ha,hc⟩
   ·have hl0:(o.numbers.length:Int)=0:=by rw[hnil];rfl
    have hne:¬ (o.numbers.length:Int)=3:=by omega
    repeat' refine W_ ?_
    refine bC x_ rfl u1 (hpo u1 (hu1.sub fun x hx=>?_)) rfl (.app _ R) (.sub (.cons_cons _ (.cons_cons _ (.cons_cons _ (.cons_cons _ (.cons_cons _ (.cons _ (Z0 _)))))))) rfl
    simpa [zG,hk1,hnil] using hx
   ·have hl0:(o.numbers.length:Int)=3:=by rw[hnum];rfl
    have hg0:(aL o.numbers)[0]?=some [.int .i64 a]:=by rw[hnum];rfl
    have hg1:(aL o.numbers)[1]?=some [.int .i64 c]:=by rw[hnum];rfl
    have hcn:∀x∈fb a++fb c,Rch m x:=fun x hx=>hrc x (Zj _ (Zk _ (by rw[if_pos hk1,hnum];simpa using hx)))
    have h2:=hAn.ctx a ha.1 ha.2 (fun x hx=>hcn x (Zk _ hx)) u1 hu1.fits hq1
    repeat' (first|refine W_ ?_|((with_reducible apply aB);rfl;kernel_rfl;(repeat (first|exact ay.nil|((with_reducible apply ay.cons);rfl)));exact hG;exact h2;exact .cons _ _ _ _ (.cons _ _ _ _ (.cons _ _ _ _ (.cons _ _ _ _ (.cons _ _ _ _ (.nil _)))));intro u2 hu2;refine aT (objs':=(s,b,_)::(q.1.1,q.1.2,_)::(q.2.1.1,q.2.1.2,_)::(q.2.2.1.1,q.2.2.1.2,_)::(q.2.2.2.1,q.2.2.2.2,_)::(s4,b4,_)::R) rfl ?_))
    have hq2:=ZN (Mk4.un_mono hu1.fits hu2.fits hu2.mono) hq1
    have h3:=hAn.ctx c hc.1 hc.2 (fun x hx=>hcn x (Zj _ hx)) u2 hu2.fits hq2
    repeat' (first|refine W_ ?_|((with_reducible apply aB);rfl;kernel_rfl;(repeat (first|exact ay.nil|((with_reducible apply ay.cons);rfl)));exact hG;exact h3;exact .cons _ _ _ _ (.cons _ _ _ _ (.cons _ _ _ _ (.cons _ _ _ _ (.cons _ _ _ _ (.nil _)))));intro u3 hu3;refine aT (objs':=(s,b,_)::(q.1.1,q.1.2,_)::(q.2.1.1,q.2.1.2,_)::(q.2.2.1.1,q.2.2.1.2,_)::(q.2.2.2.1,q.2.2.2.2,_)::(s4,b4,_)::R) rfl ?_))
    refine bC x_ rfl u3 (hpo u3 ((hu1.trans (hu2.trans hu3)).sub fun x hx=>?_)) rfl (.app _ R) (.sub (.cons_cons _ (.cons_cons _ (.cons_cons _ (.cons_cons _ (.cons_cons _ (.cons _ (Z0 _)))))))) rfl
    unfold zG at hx
    rw[if_pos hk1,if_neg hk3,hnum] at hx
    simpa using hx
  ·by_cases hk3:o.kind=3
   ·obtain⟨hl1,hpr⟩:=hsem hk3
    have hdl:((aL o.numbers).drop 1).length=o.numbers.length - 1:=by rw[Yw,hll]
    have hdr:(aL o.numbers).drop 1=aL (o.numbers.drop 1):=by simp[aL]
    have hon:=hosm.2
    generalize hD:o.numbers.drop 1=D at hpr hdr
    have hDl:D.length=o.numbers.length - 1:=by rw[<- hD,Yw]
    rw[hdr] at hdl
    have hpn:∀p∈D,Rch m (.prc p.toNat):=fun p hp=>hrc _ (Zj _ (Zj _ (by rw[if_pos hk3,hD];exact List.mem_map.2 ⟨p,hp,rfl⟩)))
    repeat' (first|refine W_ ?_|refine afO ?_)
    have hu0:gR m (o.fields.flatMap eg++(D.take 0).map fun p=>Nd.prc p.toNat) (t.set (.obj k)) u1:=by simpa using hu1
    apply aj (X:=Nat×Mk4) [0,61,62,1000000] (fun y=>[(63,.int .i64 (y.1:Int))])
      (fun y=>(s,b,.box [.cp f (m.tw lo),.ms q.1.1 q.1.2 0 y.2.o.length,.ms q.2.1.1 q.2.1.2 0 y.2.b.length,.ms q.2.2.1.1 q.2.2.1.2 0 y.2.c.length,.ms q.2.2.2.1 q.2.2.2.2 0 y.2.p.length])::(q.1.1,q.1.2,.row 1 (bR y.2.o))::(q.2.1.1,q.2.1.2,.row 1 (bR y.2.b))::(q.2.2.1.1,q.2.2.1.2,.row 1 (bR y.2.c))::(q.2.2.2.1,q.2.2.2.2,.row 1 (bR y.2.p))::(s4,b4,.box [.int .i64 o.kind,.int .i64 o.class_,.sl lo 3 (o.fields.map (ab.tw lo)),.sl lo 1 (aL o.numbers)])::R)
      (fun y=>y.1<=D.length/\gR m (o.fields.flatMap eg++(D.take y.1).map fun p=>Nd.prc p.toNat) (t.set (.obj k)) y.2) (fun y=>D.length - y.1) (0,u1) ⟨Zd _,hu0⟩
    exact kp_;exact nw_
    ·exact .refl _
    rintro ⟨i,u⟩ ⟨hi,hu⟩
    dsimp only at hi hu |-
    by_cases hlt:i<D.length
    ·have hgi:(aL D)[i]?=some [.int .i64 D[i]]:=aK hlt
     have hpi:=hpr _ (Zb hlt)
     have hri:=hpn _ (Zb hlt)
     have htk:D.take (i+1)=D.take i++[D[i]]:=(Z9 hlt).symm
     generalize D[i]=pn at hgi hpi hri htk
     obtain⟨j,rfl⟩:=Z5 hpi.1
     rw[ZF] at hri
     have hct:=hAn.prc j (by omega) hri u hu.fits (ZN (Mk4.un_mono hfs hu.fits hu.mono) (by omega))
     repeat' (first|refine W_ ?_|((with_reducible apply aB);rfl;kernel_rfl;(repeat (first|exact ay.nil|((with_reducible apply ay.cons);rfl)));exact hG;exact hct;exact .cons _ _ _ _ (.cons _ _ _ _ (.cons _ _ _ _ (.cons _ _ _ _ (.cons _ _ _ _ (.nil _)))));intro u2 hu2))
     refine ag (i+1,u2) ⟨by dsimp only;omega,by dsimp only;rw[htk,Z1,<- Zh];exact hu.trans hu2⟩ (by dsimp only;omega) (.of _ nw_ od_ ?_)
     exact .refl _
    ·obtain rfl:i=D.length:=by omega
     rw[Zc (Zf _)] at hu
     repeat' refine W_ ?_
     refine bC x_ rfl u (hpo u (hu.sub fun x hx=>?_)) rfl (.app _ R) (.sub (.cons_cons _ (.cons_cons _ (.cons_cons _ (.cons_cons _ (.cons_cons _ (.cons _ (Z0 _)))))))) rfl
     simpa [zG,hk1,hk3,hD] using hx
   ·repeat' refine W_ ?_
    refine bC x_ rfl u1 (hpo u1 (hu1.sub fun x hx=>?_)) rfl (.app _ R) (.sub (.cons_cons _ (.cons_cons _ (.cons_cons _ (.cons_cons _ (.cons_cons _ (.cons _ (Z0 _)))))))) rfl
    simpa [zG,hk1,hk3] using hx
end
section
variable {G:World->Prop} {s b f lo:Nat} {m:ah} {q:Rp}
theorem acP (hst:aC G) (hN:vP m) (hsm:m.small 1048576) (n:Nat) (hA:∀n'<n,RcH G s b f lo m q n') (v:ab) (hv:iP m v) (hr:∀x∈eg v,Rch m x):rcC G s b f lo m q 171 [.agg [.int .i64 v.kind,.int .i64 v.number,.str v.text]] (eg v) n:=by
 intro t hf hun
 refine aA Tryz.func171 rfl Tryz.ntmps171 rfl rfl rfl fun w0 R gs objsR hG hR=>?_
 obtain rfl:=hR.eq
 clear hR
 by_cases h6:v.kind=6
 ·have h7:¬ v.kind=7:=by omega
  obtain⟨h0,h1⟩:=od hv h6
  obtain⟨j,hj⟩:=Z5 h0
  have hvn:eg v=[.obj j]:=by unfold eg;rw[if_pos h6,hj];rfl
  have hct:=adJ hst hN hsm n hA j (by omega) (hr _ (by rw[hvn];exact List.mem_singleton.2 rfl)) t hf hun
  rw[hvn,hj]
  unfold rcO
  refine aV (objs':=(s,b,_)::(q.1.1,q.1.2,_)::(q.2.1.1,q.2.1.2,_)::(q.2.2.1.1,q.2.2.1.2,_)::(q.2.2.2.1,q.2.2.2.2,_)::R) (bK rfl) ?_
  repeat' (first|refine W_ ?_|refine aN ?_|((with_reducible apply aB);rfl;kernel_rfl;(repeat (first|exact ay.nil|((with_reducible apply ay.cons);rfl)));exact hG;exact hct;exact .cons _ _ _ _ (.cons _ _ _ _ (.cons _ _ _ _ (.cons _ _ _ _ (.cons _ _ _ _ (.nil _)))));intro u hu;refine aT (objs':=(s,b,_)::(q.1.1,q.1.2,_)::(q.2.1.1,q.2.1.2,_)::(q.2.2.1.1,q.2.2.1.2,_)::(q.2.2.2.1,q.2.2.2.2,_) ::  R) rfl ?_))
  exact bC x_ rfl u hu rfl (.app _ R) (.refl _) rfl
 ·by_cases h7:v.kind=7
  ·obtain⟨h0,h1⟩:=lq hv h7
   obtain⟨j,hj⟩:=Z5 h0
   have hvn:eg v=[.blk j]:=by unfold eg;rw[if_neg h6,if_pos h7,hj];rfl
   have hct:=afl hst hN hsm n hA j (by omega) (hr _ (by rw[hvn];exact List.mem_singleton.2 rfl)) t hf hun
   rw[hvn,hj]
   refine aV (objs':=(s,b,_)::(q.1.1,q.1.2,_)::(q.2.1.1,q.2.1.2,_)::(q.2.2.1.1,q.2.2.1.2,_)::(q.2.2.2.1,q.2.2.2.2,_)::R) (bK rfl) ?_
   repeat' (first|refine W_ ?_|refine aN ?_|((with_reducible apply aB);rfl;kernel_rfl;(repeat (first|exact ay.nil|((with_reducible apply ay.cons);rfl)));exact hG;exact hct;exact .cons _ _ _ _ (.cons _ _ _ _ (.cons _ _ _ _ (.cons _ _ _ _ (.cons _ _ _ _ (.nil _)))));intro u hu;refine aT (objs':=(s,b,_)::(q.1.1,q.1.2,_)::(q.2.1.1,q.2.1.2,_)::(q.2.2.1.1,q.2.2.1.2,_)::(q.2.2.2.1,q.2.2.2.2,_) ::  R) rfl ?_))
   exact bC x_ rfl u hu rfl (.app _ R) (.refl _) rfl
  ·have hvn:eg v=[]:=by unfold eg;rw[if_neg h6,if_neg h7]
   rw[hvn]
   refine aV (objs':=(s,b,_)::(q.1.1,q.1.2,_)::(q.2.1.1,q.2.1.2,_)::(q.2.2.1.1,q.2.2.1.2,_)::(q.2.2.2.1,q.2.2.2.2,_)::R) (bK rfl) ?_
   repeat' (first|refine W_ ?_|refine aN ?_)
   exact bC x_ rfl t (gR.refl hf fun x hx=>absurd hx (by simp)) rfl (.app _ R) (.refl _) rfl
theorem adj (hst:aC G) (hN:vP m) (hsm:m.small 1048576) (n:Nat) (hA:∀n'<n,RcH G s b f lo m q n') (l:List ab) (hl:l.length<=1048576) (hv:∀v∈l,iP m v) (hr:∀x∈l.flatMap eg,Rch m x):rcC G s b f lo m q 287 [.sl lo 3 (l.map (ab.tw lo))] (l.flatMap eg) n:=by
 intro t hf hun
 refine aA Tryz.func287 rfl Tryz.ntmps287 rfl rfl rfl fun w0 R gs objsR hG hR=>?_
 obtain rfl:=hR.eq
 clear hR
 have hll:=ab.len lo l
 refine aV (objs':=(s,b,_)::(q.1.1,q.1.2,_)::(q.2.1.1,q.2.1.2,_)::(q.2.2.1.1,q.2.2.1.2,_)::(q.2.2.2.1,q.2.2.2.2,_)::R) (bK rfl) ?_
 repeat' refine W_ ?_
 have hu0:gR m ((l.take 0).flatMap eg) t t:=gR.refl hf fun x hx=>absurd hx (by simp)
 apply aj (X:=Nat×Mk4) [0,6,7,1000000] (fun y=>[(8,.int .i64 (y.1:Int))])
   (fun y=>(s,b,.box [.cp f (m.tw lo),.ms q.1.1 q.1.2 0 y.2.o.length,.ms q.2.1.1 q.2.1.2 0 y.2.b.length,.ms q.2.2.1.1 q.2.2.1.2 0 y.2.c.length,.ms q.2.2.2.1 q.2.2.2.2 0 y.2.p.length])::(q.1.1,q.1.2,.row 1 (bR y.2.o))::(q.2.1.1,q.2.1.2,.row 1 (bR y.2.b))::(q.2.2.1.1,q.2.2.1.2,.row 1 (bR y.2.c))::(q.2.2.2.1,q.2.2.2.2,.row 1 (bR y.2.p))::R)
   (fun y=>y.1<=l.length/\gR m ((l.take y.1).flatMap eg) t y.2) (fun y=>l.length - y.1) (0,t) ⟨Zd _,hu0⟩
 exact kp_;exact nw_
 ·exact .refl _
 rintro ⟨i,u⟩ ⟨hi,hu⟩
 dsimp only at hi hu |-
 by_cases hlt:i<l.length
 ·have hgi:(l.map (ab.tw lo))[i]?=some (l[i].tw lo):=aK hlt
  have hvi:=hv _ (Zb hlt)
  have hri:∀x∈eg l[i],Rch m x:=fun x hx=>hr x (List.mem_flatMap.2 ⟨_,Zb hlt,hx⟩)
  have htk:l.take (i+1)=l.take i++[l[i]]:=(Z9 hlt).symm
  generalize l[i]=v at hgi hvi hri htk
  rw[show v.tw lo=[.int .i64 v.kind,.int .i64 v.number,.str v.text] from rfl] at hgi
  have hct:=acP (s:=s) (b:=b) (f:=f) (lo:=lo) (q:=q) hst hN hsm n hA v hvi hri u hu.fits (ZN (Mk4.un_mono hf hu.fits hu.mono) hun)
  repeat' (first|refine W_ ?_|(refine am ?_;intro ss bb)|refine ac ?_)
  generalize ss=s4;generalize bb=b4
  refine iL (dP _ _ _ _ _ _ _) ?_
  repeat' (first|refine W_ ?_|((with_reducible apply aB);rfl;kernel_rfl;(repeat (first|exact ay.nil|((with_reducible apply ay.cons);rfl)));exact hG;exact hct;exact .cons _ _ _ _ (.cons _ _ _ _ (.cons _ _ _ _ (.cons _ _ _ _ (.cons _ _ _ _ (.nil _)))));intro u2 hu2;refine aT (objs':=(s,b,_)::(q.1.1,q.1.2,_)::(q.2.1.1,q.2.1.2,_)::(q.2.2.1.1,q.2.2.1.2,_)::(q.2.2.2.1,q.2.2.2.2,_)::(s4,b4,_)::R) rfl ?_))
  refine ag (i+1,u2) ⟨by dsimp only;omega,by dsimp only;rw[htk,Xe];simpa using hu.trans hu2⟩ (by dsimp only;omega) (.of _ nw_ od_ ?_)
  exact .sub (.cons_cons _ (.cons_cons _ (.cons_cons _ (.cons_cons _ (.cons_cons _ (.cons _ (Z0 _)))))))
 ·obtain rfl:i=l.length:=by omega
  rw[Zc (Zf _)] at hu
  repeat' refine W_ ?_
  exact bC x_ rfl u hu rfl (.app _ R) (.refl _) rfl
end
section
variable {G:World->Prop} {s b f lo:Nat} {m:ah} {q:Rp}
def afB (lo:Nat) (o:aq):List TV:=[.int .i64 o.mark,.int .i64 o.code,.int .i64 o.pc,.int .i64 o.sender,.int .i64 o.outer,.int .i64 o.home,.int .i64 o.self.kind,.int .i64 o.self.number,.str o.self.text,.sl lo 3 (o.slots.map (ab.tw lo)),.sl lo 3 (o.stack.map (ab.tw lo)),.sl lo 3 (o.values.map (ab.tw lo)),.int .i64 o.other,.bool o.retry]
theorem ol (lo:Nat) (o:aq):Ct Tryz.prog G 88 [.agg (afB lo o)] (fun _=>.bool (decide (o.mark=3\/o.mark=5))):=by
 unfold afB
 refine au Tryz.func88 rfl Tryz.ntmps88 rfl rfl fun w0 _ hG=>?_
 by_cases h3:o.mark=3
 ·repeat' (first|refine W_ ?_|refine aN ?_)
  refine aM x_ rfl (.tmp _ _ rfl) (fun _=>?_)
  exact aO (by simp[h3])
 ·by_cases h5:o.mark=5
  ·repeat' (first|refine W_ ?_|refine aN ?_)
   refine aM x_ rfl (.tmp _ _ rfl) (fun _=>?_)
   exact aO (by simp[h5])
  ·repeat' (first|refine W_ ?_|refine aN ?_)
   refine aM x_ rfl (.tmp _ _ rfl) (fun _=>?_)
   exact aO (by simp[h3,h5])
theorem acR {t:Mk4} {k:Nat} (h:k<t.c.length):t.has (.ctx k)↔t.c[k]=true:=by
 simp[Mk4.has,h]
theorem abP (hst:aC G) (hN:vP m) (hsm:m.small 1048576) (n:Nat) (hA:∀n'<n,RcH G s b f lo m q n') (k:Int) (hk0:-1<=k) (hk:k<m.contexts.length) (hr:∀x∈fb k,Rch m x):rcC G s b f lo m q 236 [.int .i64 k] (fb k) n:=by
 intro t hf hun
 refine aA Tryz.func236 rfl Tryz.ntmps236 rfl rfl rfl fun w0 R gs objsR hG hR=>?_
 obtain rfl:=hR.eq
 clear hR
 have hp1:=hsm.2.2.2.1.1
 have hlp:=aq.len lo m.contexts
 refine aV (objs':=(s,b,_)::(q.1.1,q.1.2,_)::(q.2.1.1,q.2.1.2,_)::(q.2.2.1.1,q.2.2.1.2,_)::(q.2.2.2.1,q.2.2.2.2,_)::R) (bK rfl) ?_
 repeat' refine W_ ?_
 apply aj (X:=Int×Mk4) [0,1000000] (fun y=>[(1,.int .i64 y.1)])
   (fun y=>(s,b,.box [.cp f (m.tw lo),.ms q.1.1 q.1.2 0 y.2.o.length,.ms q.2.1.1 q.2.1.2 0 y.2.b.length,.ms q.2.2.1.1 q.2.2.1.2 0 y.2.c.length,.ms q.2.2.2.1 q.2.2.2.2 0 y.2.p.length])::(q.1.1,q.1.2,.row 1 (bR y.2.o))::(q.2.1.1,q.2.1.2,.row 1 (bR y.2.b))::(q.2.2.1.1,q.2.2.1.2,.row 1 (bR y.2.c))::(q.2.2.2.1,q.2.2.2.2,.row 1 (bR y.2.p))::R)
   (fun y=>-1<=y.1/\y.1<m.contexts.length/\(∀x∈fb y.1,Rch m x)/\ac8 m (fb k) (fb y.1) t y.2) (fun y=>(y.1+1).toNat) (k,t) ⟨hk0,hk,hr,ac8.start hf⟩
 exact kp_;exact nw_
 ·exact .refl _
 rintro ⟨k',u⟩ ⟨h0,h1,hrk,hp⟩
 dsimp only at h0 h1 hrk hp |-
 by_cases hneg:0<=k'
 ·obtain⟨j,rfl⟩:=Z5 hneg
  have hcn:fb (j:Int)=[.ctx j]:=by unfold fb;rw[if_pos hneg];rfl
  rw[hcn] at hp hrk
  have hjm:j<m.contexts.length:=by omega
  have hkt:j<u.c.length:=by rw[hp.fits.2.2.1];exact hjm
  have hrow:=fe hkt
  have hbl:=ff u.c
  have htp:=hp.fits.2.2.1
  have hhas:=acR hkt
  by_cases hm:u.c[j]=true
  ·rw[hm] at hrow
   repeat' refine W_ ?_
   exact bC x_ rfl u (hp.done fun x hx=>by rw[Zy] at hx;exact hx ▸ hhas.2 hm) rfl (.app _ R) (.refl _) rfl
  ·have hm2:u.c[j]=false:=by simpa using hm
   rw[hm2] at hrow
   have hus:=Mk4.un_set hp.fits (x:=.ctx j) hjm (fun h=>hm (hhas.1 h))
   have hfs:=Mk4.set_fits hp.fits (.ctx j)
   have hun2:u.un<=n:=ZN (Mk4.un_mono hf hp.fits hp.mono) hun
   have hAn:=hA (n - 1) (by omega)
   obtain⟨hsd,hou,hho,hot,hse,hsl,hsk,hva⟩:=hN.ctx j hjm
   have hosm:=hsm.2.2.2.1.2 _ (Zb hjm)
   have hsuc:iI m (.ctx j)=cxN m.contexts[j]:=by simp[iI,hjm]
   have hrj:=hrk _ (List.mem_singleton.2 rfl)
   have hrc:∀x∈cxN m.contexts[j],Rch m x:=fun x hx=>.step _ _ hrj (by rw[hsuc];exact hx)
   have hpo:=fun(B:List Nd) (v:Mk4) (hB:∀y∈cxN m.contexts[j],y∈fb m.contexts[j].sender\/y∈B) (h:gR m B (u.set (.ctx j)) v)=>hp.step (A:=fb m.contexts[j].sender) hjm hrj (by rw[hsuc];exact hB) h
   have hrow2:=dB (lo:=lo) hjm
   have hset:∀R':aJ,(s,b,aW.box [.cp f (m.tw lo),.ms q.1.1 q.1.2 0 u.o.length,.ms q.2.1.1 q.2.1.2 0 u.b.length,.ms q.2.2.1.1 q.2.2.1.2 0 u.c.length,.ms q.2.2.2.1 q.2.2.2.2 0 u.p.length])::(q.1.1,q.1.2,aW.row 1 (bR u.o))::(q.2.1.1,q.2.1.2,aW.row 1 (bR u.b))::(q.2.2.1.1,q.2.2.1.2,aW.row 1 ((bR u.c).set j [.bool true]))::(q.2.2.2.1,q.2.2.2.2,aW.row 1 (bR u.p))::R'=rcO s b f lo m q (u.set (.ctx j))++R':=fun R'=>by simp[rcO,Mk4.set,mK]
   generalize m.contexts[j]=o at hrow2 hpo hsd hou hho hot hse hsl hsk hva hosm hrc
   obtain⟨zse,⟨zsl,zsl2⟩,⟨zsk,zsk2⟩,zva,zva2⟩:=hosm
   have hmm:∀x,x∈cxN o->Rch m x:=hrc
   have hin:∀x,(x∈fb o.sender\/x∈fb o.outer\/x∈fb o.home\/x∈(if o.mark=3\/o.mark=5 then fb o.other else [])\/x∈eg o.self\/x∈o.slots.flatMap eg\/x∈o.stack.flatMap eg\/x∈o.values.flatMap eg)->Rch m x:=fun x h=>hmm x (by unfold cxN;simpa only [ZI] using h)
   have hm1:=fun(v:Mk4) (fv:v.fits m) (h:∀x,(u.set (.ctx j)).has x->v.has x)=>ZN (Mk4.un_mono hfs fv h) (show _<=n - 1 by omega)
   have c1:=hAn.ctx o.outer hou.1 (by omega) (fun x h=>hin x (.inr (.inl h))) (u.set (.ctx j)) hfs (by omega)
   unfold ah.tw
   repeat' (first|refine H_ 3 ?_|refine bm ?_|(refine am ?_;intro ss bb)|refine ac ?_)
   refine⟨?_⟩
   generalize ss=s4;generalize bb=b4
   refine aV (.trans (bK (hset _).symm) (dP _ _ _ _ _ _ _)) ?_
   refine aV (objs':=(s,b,_)::(q.1.1,q.1.2,_)::(q.2.1.1,q.2.1.2,_)::(q.2.2.1.1,q.2.2.1.2,_)::(q.2.2.2.1,q.2.2.2.2,_)::(s4,b4,_)::R) (bK rfl) ?_
   repeat' (first|refine W_ ?_|((with_reducible apply aB);rfl;kernel_rfl;(repeat (first|exact ay.nil|((with_reducible apply ay.cons);rfl)));exact hG;exact c1;exact .cons _ _ _ _ (.cons _ _ _ _ (.cons _ _ _ _ (.cons _ _ _ _ (.cons _ _ _ _ (.nil _)))));intro u1 a1;refine aT (objs':=(s,b,_)::(q.1.1,q.1.2,_)::(q.2.1.1,q.2.1.2,_)::(q.2.2.1.1,q.2.2.1.2,_)::(q.2.2.2.1,q.2.2.2.2,_)::(s4,b4,_)::R) rfl ?_))
   have c2:=hAn.ctx o.home hho.1 (by omega) (fun x h=>hin x (.inr (.inr (.inl h)))) u1 a1.fits (hm1 u1 a1.fits a1.mono)
   repeat' (first|refine W_ ?_|((with_reducible apply aB);rfl;kernel_rfl;(repeat (first|exact ay.nil|((with_reducible apply ay.cons);rfl)));exact hG;exact c2;exact .cons _ _ _ _ (.cons _ _ _ _ (.cons _ _ _ _ (.cons _ _ _ _ (.cons _ _ _ _ (.nil _)))));intro u2 a2;refine aT (objs':=(s,b,_)::(q.1.1,q.1.2,_)::(q.2.1.1,q.2.1.2,_)::(q.2.2.1.1,q.2.2.1.2,_)::(q.2.2.2.1,q.2.2.2.2,_)::(s4,b4,_)::R) rfl ?_))
   have e2:=a1.trans a2
   by_cases hmk:o.mark=3\/o.mark=5
   ·have hpt:Ct Tryz.prog G 88 [.agg (afB lo o)] (fun _=>.bool true):=by
      have:=ol (G:=G) lo o
      rwa [show decide (o.mark=3\/o.mark=5)=true by simp[hmk]] at this
    unfold afB at hpt
    have c3:=hAn.ctx o.other (hot hmk).1 (by have:=(hot hmk).2;omega) (fun x h=>hin x (.inr (.inr (.inr (.inl (by rw[if_pos hmk];exact h)))))) u2 e2.fits (hm1 u2 e2.fits e2.mono)
    repeat' (first|refine W_ ?_|refine ad hG hst (hpt) ?_|((with_reducible apply aB);rfl;kernel_rfl;(repeat (first|exact ay.nil|((with_reducible apply ay.cons);rfl)));exact hG;exact c3;exact .cons _ _ _ _ (.cons _ _ _ _ (.cons _ _ _ _ (.cons _ _ _ _ (.cons _ _ _ _ (.nil _)))));intro u3 a3;refine aT (objs':=(s,b,_)::(q.1.1,q.1.2,_)::(q.2.1.1,q.2.1.2,_)::(q.2.2.1.1,q.2.2.1.2,_)::(q.2.2.2.1,q.2.2.2.2,_)::(s4,b4,_)::R) rfl ?_))
    have e3:=e2.trans a3
    have c4:=hAn.val o.self hse (fun x h=>hin x (.inr (.inr (.inr (.inr (.inl h)))))) u3 e3.fits (hm1 u3 e3.fits e3.mono)
    repeat' (first|refine W_ ?_|((with_reducible apply aB);rfl;kernel_rfl;(repeat (first|exact ay.nil|((with_reducible apply ay.cons);rfl)));exact hG;exact c4;exact .cons _ _ _ _ (.cons _ _ _ _ (.cons _ _ _ _ (.cons _ _ _ _ (.cons _ _ _ _ (.nil _)))));intro u4 a4;refine aT (objs':=(s,b,_)::(q.1.1,q.1.2,_)::(q.2.1.1,q.2.1.2,_)::(q.2.2.1.1,q.2.2.1.2,_)::(q.2.2.2.1,q.2.2.2.2,_)::(s4,b4,_)::R) rfl ?_))
    have e4:=e3.trans a4
    have c5:=hAn.vals o.slots zsl hsl (fun x h=>hin x (.inr (.inr (.inr (.inr (.inr (.inl h))))))) u4 e4.fits (hm1 u4 e4.fits e4.mono)
    repeat' (first|refine W_ ?_|((with_reducible apply aB);rfl;kernel_rfl;(repeat (first|exact ay.nil|((with_reducible apply ay.cons);rfl)));exact hG;exact c5;exact .cons _ _ _ _ (.cons _ _ _ _ (.cons _ _ _ _ (.cons _ _ _ _ (.cons _ _ _ _ (.nil _)))));intro u5 a5;refine aT (objs':=(s,b,_)::(q.1.1,q.1.2,_)::(q.2.1.1,q.2.1.2,_)::(q.2.2.1.1,q.2.2.1.2,_)::(q.2.2.2.1,q.2.2.2.2,_)::(s4,b4,_)::R) rfl ?_))
    have e5:=e4.trans a5
    have c6:=hAn.vals o.stack zsk hsk (fun x h=>hin x (.inr (.inr (.inr (.inr (.inr (.inr (.inl h)))))))) u5 e5.fits (hm1 u5 e5.fits e5.mono)
    repeat' (first|refine W_ ?_|((with_reducible apply aB);rfl;kernel_rfl;(repeat (first|exact ay.nil|((with_reducible apply ay.cons);rfl)));exact hG;exact c6;exact .cons _ _ _ _ (.cons _ _ _ _ (.cons _ _ _ _ (.cons _ _ _ _ (.cons _ _ _ _ (.nil _)))));intro u6 a6;refine aT (objs':=(s,b,_)::(q.1.1,q.1.2,_)::(q.2.1.1,q.2.1.2,_)::(q.2.2.1.1,q.2.2.1.2,_)::(q.2.2.2.1,q.2.2.2.2,_)::(s4,b4,_)::R) rfl ?_))
    have e6:=e5.trans a6
    have c7:=hAn.vals o.values zva hva (fun x h=>hin x (.inr (.inr (.inr (.inr (.inr (.inr (.inr h)))))))) u6 e6.fits (hm1 u6 e6.fits e6.mono)
    repeat' (first|refine W_ ?_|((with_reducible apply aB);rfl;kernel_rfl;(repeat (first|exact ay.nil|((with_reducible apply ay.cons);rfl)));exact hG;exact c7;exact .cons _ _ _ _ (.cons _ _ _ _ (.cons _ _ _ _ (.cons _ _ _ _ (.cons _ _ _ _ (.nil _)))));intro u7 a7;refine aT (objs':=(s,b,_)::(q.1.1,q.1.2,_)::(q.2.1.1,q.2.1.2,_)::(q.2.2.1.1,q.2.2.1.2,_)::(q.2.2.2.1,q.2.2.2.2,_)::(s4,b4,_)::R) rfl ?_))
    have e7:=e6.trans a7
    have hfin:=hpo _ u7 (fun y hy=>by unfold cxN at hy;rw[if_pos hmk] at hy;simp only[ZI,ZO,false_or] at hy |-;rcases hy with h|h|h|h|h|h|h|h <;> simp[h]) e7
    refine ag (o.sender,u7) ⟨hsd.1,by dsimp only;omega,fun x h=>hin x (.inl h),hfin⟩ (by dsimp only;omega) (.of _ nw_ od_ ?_)
    exact .sub (.cons_cons _ (.cons_cons _ (.cons_cons _ (.cons_cons _ (.cons_cons _ (.cons _ (Z0 _)))))))
   ·have hpt:Ct Tryz.prog G 88 [.agg (afB lo o)] (fun _=>.bool false):=by
      have:=ol (G:=G) lo o
      rwa [show decide (o.mark=3\/o.mark=5)=false by simp[hmk]] at this
    unfold afB at hpt
    have c4:=hAn.val o.self hse (fun x h=>hin x (.inr (.inr (.inr (.inr (.inl h)))))) u2 e2.fits (hm1 u2 e2.fits e2.mono)
    repeat' (first|refine W_ ?_|refine ad hG hst (hpt) ?_|((with_reducible apply aB);rfl;kernel_rfl;(repeat (first|exact ay.nil|((with_reducible apply ay.cons);rfl)));exact hG;exact c4;exact .cons _ _ _ _ (.cons _ _ _ _ (.cons _ _ _ _ (.cons _ _ _ _ (.cons _ _ _ _ (.nil _)))));intro u4 a4;refine aT (objs':=(s,b,_)::(q.1.1,q.1.2,_)::(q.2.1.1,q.2.1.2,_)::(q.2.2.1.1,q.2.2.1.2,_)::(q.2.2.2.1,q.2.2.2.2,_)::(s4,b4,_)::R) rfl ?_))
    have e4:=e2.trans a4
    have c5:=hAn.vals o.slots zsl hsl (fun x h=>hin x (.inr (.inr (.inr (.inr (.inr (.inl h))))))) u4 e4.fits (hm1 u4 e4.fits e4.mono)
    repeat' (first|refine W_ ?_|((with_reducible apply aB);rfl;kernel_rfl;(repeat (first|exact ay.nil|((with_reducible apply ay.cons);rfl)));exact hG;exact c5;exact .cons _ _ _ _ (.cons _ _ _ _ (.cons _ _ _ _ (.cons _ _ _ _ (.cons _ _ _ _ (.nil _)))));intro u5 a5;refine aT (objs':=(s,b,_)::(q.1.1,q.1.2,_)::(q.2.1.1,q.2.1.2,_)::(q.2.2.1.1,q.2.2.1.2,_)::(q.2.2.2.1,q.2.2.2.2,_)::(s4,b4,_)::R) rfl ?_))
    have e5:=e4.trans a5
    have c6:=hAn.vals o.stack zsk hsk (fun x h=>hin x (.inr (.inr (.inr (.inr (.inr (.inr (.inl h)))))))) u5 e5.fits (hm1 u5 e5.fits e5.mono)
    repeat' (first|refine W_ ?_|((with_reducible apply aB);rfl;kernel_rfl;(repeat (first|exact ay.nil|((with_reducible apply ay.cons);rfl)));exact hG;exact c6;exact .cons _ _ _ _ (.cons _ _ _ _ (.cons _ _ _ _ (.cons _ _ _ _ (.cons _ _ _ _ (.nil _)))));intro u6 a6;refine aT (objs':=(s,b,_)::(q.1.1,q.1.2,_)::(q.2.1.1,q.2.1.2,_)::(q.2.2.1.1,q.2.2.1.2,_)::(q.2.2.2.1,q.2.2.2.2,_)::(s4,b4,_)::R) rfl ?_))
    have e6:=e5.trans a6
    have c7:=hAn.vals o.values zva hva (fun x h=>hin x (.inr (.inr (.inr (.inr (.inr (.inr (.inr h)))))))) u6 e6.fits (hm1 u6 e6.fits e6.mono)
    repeat' (first|refine W_ ?_|((with_reducible apply aB);rfl;kernel_rfl;(repeat (first|exact ay.nil|((with_reducible apply ay.cons);rfl)));exact hG;exact c7;exact .cons _ _ _ _ (.cons _ _ _ _ (.cons _ _ _ _ (.cons _ _ _ _ (.cons _ _ _ _ (.nil _)))));intro u7 a7;refine aT (objs':=(s,b,_)::(q.1.1,q.1.2,_)::(q.2.1.1,q.2.1.2,_)::(q.2.2.1.1,q.2.2.1.2,_)::(q.2.2.2.1,q.2.2.2.2,_)::(s4,b4,_)::R) rfl ?_))
    have e7:=e6.trans a7
    have hfin:=hpo _ u7 (fun y hy=>by unfold cxN at hy;rw[if_neg hmk] at hy;simp only[ZI,ZO,false_or] at hy |-;rcases hy with h|h|h|h|h|h|h <;> simp[h]) e7
    refine ag (o.sender,u7) ⟨hsd.1,by dsimp only;omega,fun x h=>hin x (.inl h),hfin⟩ (by dsimp only;omega) (.of _ nw_ od_ ?_)
    exact .sub (.cons_cons _ (.cons_cons _ (.cons_cons _ (.cons_cons _ (.cons_cons _ (.cons _ (Z0 _)))))))
 ·have hcn:fb k'=[]:=by unfold fb;rw[if_neg hneg]
  rw[hcn] at hp
  repeat' refine W_ ?_
  exact bC x_ rfl u (hp.done fun x hx=>absurd hx (by simp)) rfl (.app _ R) (.refl _) rfl
end
section
variable {G:World->Prop} {s b f lo:Nat} {m:ah} {q:Rp}
theorem iA (a b c d e x:Nat×Nat×aW) (R:aJ):bW (x::a::b::c::d::e::R) (a::b::c::d::e::x::R):=.perm (by
 have h:=ce (n:=7) [[x],[a],[b],[c],[d],[e],R] [1,2,3,4,5,0,6] rfl (by decide)
 simpa using h.symm)
theorem nY {j n:Nat} (h:j<n):Ct Tryz.prog G 99 [.int .i64 (j:Int),.int .i64 0,.int .i64 ((n - 1:Nat):Int)] (fun _=>.bool true):=by
 have:=bA (G:=G) (j:Int) 0 ((n - 1:Nat):Int)
 rwa [show inR (j:Int) 0 ((n - 1:Nat):Int)=true by simp[inR];omega] at this
theorem ae5 {k h:Int} (hk:k<0):Ct Tryz.prog G 99 [.int .i64 k,.int .i64 0,.int .i64 h] (fun _=>.bool false):=by
 have:=bA (G:=G) k 0 h
 rwa [show inR k 0 h=false by simp[inR];omega] at this
theorem wU (hst:aC G) (hsm:m.small 1048576) (j:Nat) (tx:ByteArray) (hj:j<m.store.objects.length) (hr:Rch m (.obj j)):wkC G s b m q 234 [.mp s b 0,.agg [.int .i64 6,.int .i64 (j:Int),.str tx]] [.obj j]:=by
 intro t z hw
 refine aA Tryz.func234 rfl Tryz.ntmps234 rfl rfl rfl fun w0 R gs objsR hG hR=>?_
 obtain rfl:=hR.eq
 clear hR
 have hlen:=hw.len
 have z1:=hsm.2.1.2.1.1
 have z2:=hsm.2.2.1.1
 have z3:=hsm.2.2.2.1.1
 have z4:=hsm.2.2.2.2.1.1
 have htot:t.2.length<=4194304:=by unfold zI at hlen;omega
 have hfl:=hw.fits.1
 have hjt:j<t.1.o.length:=by omega
 have hrow:=fe hjt
 have hbl:=ff t.1.o
 have hhas:=abr (t:=t.1) hjt
 have hin:=nY (G:=G) hjt
 have hFm:(t.2.map (ab.tw 0)).length=t.2.length:=Ze _
 have hrs:t.2.map (ab.tw 0)++[[.int .i64 6,.int .i64 (j:Int),.str tx]]=(t.2++[(⟨6,j,tx⟩:ab)]).map (ab.tw 0):=by simp[ab.tw]
 refine aV (objs':=(s,b,_)::(q.1.1,q.1.2,_)::(q.2.1.1,q.2.1.2,_)::(q.2.2.1.1,q.2.2.1.2,_)::(q.2.2.2.1,q.2.2.2.2,_)::(z.1,z.2,_)::R) (bK rfl) ?_
 refine aV (iA _ _ _ _ _ _ _) ?_
 by_cases hm:t.1.o[j]=true
 ·rw[hm] at hrow
  repeat' (first|refine W_ ?_|refine aN ?_|refine ad hG hst (hin) ?_)
  exact bC x_ rfl (z,t) (Wp.refl hw fun x hx=>by rw[Zy] at hx;exact hx ▸ hhas.2 hm) rfl (.app _ R) (dP _ _ _ _ _ _ R) rfl
 ·have hm2:t.1.o[j]=false:=by simpa using hm
  rw[hm2] at hrow
  have hnh:¬ t.1.has (.obj j):=fun h=>hm (hhas.1 h)
  have ho:OkV m ⟨6,j,tx⟩:=⟨(by decide:(6:Int)<=6),(by decide:(6:Int)<=9),Y2 _,hj⟩
  have hpo:Wp m [.obj j] t (t.1.set (.obj j),t.2++[(⟨6,j,tx⟩:ab)]):=Wp.mark (v:=⟨6,j,tx⟩) hw ho hr hnh
  repeat' (first|refine W_ ?_|refine aN ?_|refine bm ?_|refine ad hG hst (hin) ?_|((with_reducible apply eS (id:=12) 8);kernel_rfl;kernel_rfl;kernel_rfl;rfl;(repeat (first|exact Cut.zero _|apply Cut.succ)))|((with_reducible apply m_q);exact ym_;rfl;exact eh)|((with_reducible apply cr);rfl;(intro p;try dsimp only);(repeat (first|exact TB.nil _|((with_reducible apply TB.cons);rfl;rfl;(first|exact .nil _|exact .put _ _ _ _ _ (.nil _)|exact .skip _ _ _ _ _ (.put _ _ _ _ _ (.nil _))|exact .skip _ _ _ _ _ (.skip _ _ _ _ _ (.put _ _ _ _ _ (.nil _)))|(repeat (first|exact .nil _|apply aY.put|apply aY.skip)));kernel_rfl)));rfl;kernel_rfl;kernel_rfl;exact eh)|((with_reducible apply i5);(intro p;rfl);rfl;kernel_rfl;kernel_rfl;rfl;kernel_rfl;rfl;(intro p;rfl);rfl;(intro p;rfl);exact eh)|((with_reducible apply jA);(intro p;rfl);(intro p;rfl);rfl;kernel_rfl;(intro p;rfl);exact hFm;(intro p;show List.length _=1;rfl);omega;exact fun p=>hrs;exact⟨by decide,by decide⟩;exact oE;rfl;(focus (simp;done)))|(with_reducible refine DM.nil _ _ _ ?_))
  intro p hp
  refine aT (objs':=(z.1,(p 7).b,.row 3 ((t.2++[(⟨6,j,tx⟩:ab)]).map (ab.tw 0)))::(s,b,_)::(q.1.1,q.1.2,_)::(q.2.1.1,q.2.1.2,_)::(q.2.2.1.1,q.2.2.1.2,_)::(q.2.2.2.1,q.2.2.2.2,_)::R) (by rw[show ed _=[_] from rfl];(try simp only[ZB,ZM,Zo,Zh,ZD,Zz]);(try rfl)) ?_
  dsimp only [Nat.reduceAdd] at hp |-
  generalize Yu.b (p 7)=bb
  repeat' (first|refine W_ ?_|refine ac ?_)
  refine bC x_ rfl ((z.1,bb),(t.1.set (.obj j),t.2++[(⟨6,j,tx⟩:ab)])) hpo rfl (.app _ R) (.trans (bK (by simp[wkO,Mk4.set,mK];done)) (dP _ _ _ _ _ _ R)) rfl
theorem xX (hst:aC G) (hsm:m.small 1048576) (j:Nat) (tx:ByteArray) (hj:j<m.blocks.length) (hr:Rch m (.blk j)):wkC G s b m q 234 [.mp s b 0,.agg [.int .i64 7,.int .i64 (j:Int),.str tx]] [.blk j]:=by
 intro t z hw
 refine aA Tryz.func234 rfl Tryz.ntmps234 rfl rfl rfl fun w0 R gs objsR hG hR=>?_
 obtain rfl:=hR.eq
 clear hR
 have hlen:=hw.len
 have z1:=hsm.2.1.2.1.1
 have z2:=hsm.2.2.1.1
 have z3:=hsm.2.2.2.1.1
 have z4:=hsm.2.2.2.2.1.1
 have htot:t.2.length<=4194304:=by unfold zI at hlen;omega
 have hfl:=hw.fits.2.1
 have hjt:j<t.1.b.length:=by omega
 have hrow:=fe hjt
 have hbl:=ff t.1.b
 have hhas:=ach (t:=t.1) hjt
 have hin:=nY (G:=G) hjt
 have hFm:(t.2.map (ab.tw 0)).length=t.2.length:=Ze _
 have hrs:t.2.map (ab.tw 0)++[[.int .i64 7,.int .i64 (j:Int),.str tx]]=(t.2++[(⟨7,j,tx⟩:ab)]).map (ab.tw 0):=by simp[ab.tw]
 refine aV (objs':=(s,b,_)::(q.1.1,q.1.2,_)::(q.2.1.1,q.2.1.2,_)::(q.2.2.1.1,q.2.2.1.2,_)::(q.2.2.2.1,q.2.2.2.2,_)::(z.1,z.2,_)::R) (bK rfl) ?_
 refine aV (iA _ _ _ _ _ _ _) ?_
 by_cases hm:t.1.b[j]=true
 ·rw[hm] at hrow
  repeat' (first|refine W_ ?_|refine aN ?_|refine ad hG hst (hin) ?_)
  exact bC x_ rfl (z,t) (Wp.refl hw fun x hx=>by rw[Zy] at hx;exact hx ▸ hhas.2 hm) rfl (.app _ R) (dP _ _ _ _ _ _ R) rfl
 ·have hm2:t.1.b[j]=false:=by simpa using hm
  rw[hm2] at hrow
  have hnh:¬ t.1.has (.blk j):=fun h=>hm (hhas.1 h)
  have ho:OkV m ⟨7,j,tx⟩:=⟨(by decide:(6:Int)<=7),(by decide:(7:Int)<=9),Y2 _,hj⟩
  have hpo:Wp m [.blk j] t (t.1.set (.blk j),t.2++[(⟨7,j,tx⟩:ab)]):=Wp.mark (v:=⟨7,j,tx⟩) hw ho hr hnh
  repeat' (first|refine W_ ?_|refine aN ?_|refine bm ?_|refine ad hG hst (hin) ?_|((with_reducible apply eS (id:=12) 8);kernel_rfl;kernel_rfl;kernel_rfl;rfl;(repeat (first|exact Cut.zero _|apply Cut.succ)))|((with_reducible apply m_q);exact ym_;rfl;exact eh)|((with_reducible apply cr);rfl;(intro p;try dsimp only);(repeat (first|exact TB.nil _|((with_reducible apply TB.cons);rfl;rfl;(first|exact .nil _|exact .put _ _ _ _ _ (.nil _)|exact .skip _ _ _ _ _ (.put _ _ _ _ _ (.nil _))|exact .skip _ _ _ _ _ (.skip _ _ _ _ _ (.put _ _ _ _ _ (.nil _)))|(repeat (first|exact .nil _|apply aY.put|apply aY.skip)));kernel_rfl)));rfl;kernel_rfl;kernel_rfl;exact eh)|((with_reducible apply i5);(intro p;rfl);rfl;kernel_rfl;kernel_rfl;rfl;kernel_rfl;rfl;(intro p;rfl);rfl;(intro p;rfl);exact eh)|((with_reducible apply jA);(intro p;rfl);(intro p;rfl);rfl;kernel_rfl;(intro p;rfl);exact hFm;(intro p;show List.length _=1;rfl);omega;exact fun p=>hrs;exact⟨by decide,by decide⟩;exact oE;rfl;(focus (simp;done)))|(with_reducible refine DM.nil _ _ _ ?_))
  intro p hp
  refine aT (objs':=(z.1,(p 7).b,.row 3 ((t.2++[(⟨7,j,tx⟩:ab)]).map (ab.tw 0)))::(s,b,_)::(q.1.1,q.1.2,_)::(q.2.1.1,q.2.1.2,_)::(q.2.2.1.1,q.2.2.1.2,_)::(q.2.2.2.1,q.2.2.2.2,_)::R) (by rw[show ed _=[_] from rfl];(try simp only[ZB,ZM,Zo,Zh,ZD,Zz]);(try rfl)) ?_
  dsimp only [Nat.reduceAdd] at hp |-
  generalize Yu.b (p 7)=bb
  repeat' (first|refine W_ ?_|refine ac ?_)
  refine bC x_ rfl ((z.1,bb),(t.1.set (.blk j),t.2++[(⟨7,j,tx⟩:ab)])) hpo rfl (.app _ R) (.trans (bK (by simp[wkO,Mk4.set,mK];done)) (dP _ _ _ _ _ _ R)) rfl
theorem wj (hst:aC G) (hsm:m.small 1048576) (j:Nat) (tx:ByteArray) (hj:j<m.contexts.length) (hr:Rch m (.ctx j)):wkC G s b m q 234 [.mp s b 0,.agg [.int .i64 8,.int .i64 (j:Int),.str tx]] [.ctx j]:=by
 intro t z hw
 refine aA Tryz.func234 rfl Tryz.ntmps234 rfl rfl rfl fun w0 R gs objsR hG hR=>?_
 obtain rfl:=hR.eq
 clear hR
 have hlen:=hw.len
 have z1:=hsm.2.1.2.1.1
 have z2:=hsm.2.2.1.1
 have z3:=hsm.2.2.2.1.1
 have z4:=hsm.2.2.2.2.1.1
 have htot:t.2.length<=4194304:=by unfold zI at hlen;omega
 have hfl:=hw.fits.2.2.1
 have hjt:j<t.1.c.length:=by omega
 have hrow:=fe hjt
 have hbl:=ff t.1.c
 have hhas:=acR (t:=t.1) hjt
 have hin:=nY (G:=G) hjt
 have hFm:(t.2.map (ab.tw 0)).length=t.2.length:=Ze _
 have hrs:t.2.map (ab.tw 0)++[[.int .i64 8,.int .i64 (j:Int),.str tx]]=(t.2++[(⟨8,j,tx⟩:ab)]).map (ab.tw 0):=by simp[ab.tw]
 refine aV (objs':=(s,b,_)::(q.1.1,q.1.2,_)::(q.2.1.1,q.2.1.2,_)::(q.2.2.1.1,q.2.2.1.2,_)::(q.2.2.2.1,q.2.2.2.2,_)::(z.1,z.2,_)::R) (bK rfl) ?_
 refine aV (iA _ _ _ _ _ _ _) ?_
 by_cases hm:t.1.c[j]=true
 ·rw[hm] at hrow
  repeat' (first|refine W_ ?_|refine aN ?_|refine ad hG hst (hin) ?_)
  exact bC x_ rfl (z,t) (Wp.refl hw fun x hx=>by rw[Zy] at hx;exact hx ▸ hhas.2 hm) rfl (.app _ R) (dP _ _ _ _ _ _ R) rfl
 ·have hm2:t.1.c[j]=false:=by simpa using hm
  rw[hm2] at hrow
  have hnh:¬ t.1.has (.ctx j):=fun h=>hm (hhas.1 h)
  have ho:OkV m ⟨8,j,tx⟩:=⟨(by decide:(6:Int)<=8),(by decide:(8:Int)<=9),Y2 _,hj⟩
  have hpo:Wp m [.ctx j] t (t.1.set (.ctx j),t.2++[(⟨8,j,tx⟩:ab)]):=Wp.mark (v:=⟨8,j,tx⟩) hw ho hr hnh
  repeat' (first|refine W_ ?_|refine aN ?_|refine bm ?_|refine ad hG hst (hin) ?_|((with_reducible apply eS (id:=12) 8);kernel_rfl;kernel_rfl;kernel_rfl;rfl;(repeat (first|exact Cut.zero _|apply Cut.succ)))|((with_reducible apply m_q);exact ym_;rfl;exact eh)|((with_reducible apply cr);rfl;(intro p;try dsimp only);(repeat (first|exact TB.nil _|((with_reducible apply TB.cons);rfl;rfl;(first|exact .nil _|exact .put _ _ _ _ _ (.nil _)|exact .skip _ _ _ _ _ (.put _ _ _ _ _ (.nil _))|exact .skip _ _ _ _ _ (.skip _ _ _ _ _ (.put _ _ _ _ _ (.nil _)))|(repeat (first|exact .nil _|apply aY.put|apply aY.skip)));kernel_rfl)));rfl;kernel_rfl;kernel_rfl;exact eh)|((with_reducible apply i5);(intro p;rfl);rfl;kernel_rfl;kernel_rfl;rfl;kernel_rfl;rfl;(intro p;rfl);rfl;(intro p;rfl);exact eh)|((with_reducible apply jA);(intro p;rfl);(intro p;rfl);rfl;kernel_rfl;(intro p;rfl);exact hFm;(intro p;show List.length _=1;rfl);omega;exact fun p=>hrs;exact⟨by decide,by decide⟩;exact oE;rfl;(focus (simp;done)))|(with_reducible refine DM.nil _ _ _ ?_))
  intro p hp
  refine aT (objs':=(z.1,(p 7).b,.row 3 ((t.2++[(⟨8,j,tx⟩:ab)]).map (ab.tw 0)))::(s,b,_)::(q.1.1,q.1.2,_)::(q.2.1.1,q.2.1.2,_)::(q.2.2.1.1,q.2.2.1.2,_)::(q.2.2.2.1,q.2.2.2.2,_)::R) (by rw[show ed _=[_] from rfl];(try simp only[ZB,ZM,Zo,Zh,ZD,Zz]);(try rfl)) ?_
  dsimp only [Nat.reduceAdd] at hp |-
  generalize Yu.b (p 7)=bb
  repeat' (first|refine W_ ?_|refine ac ?_)
  refine bC x_ rfl ((z.1,bb),(t.1.set (.ctx j),t.2++[(⟨8,j,tx⟩:ab)])) hpo rfl (.app _ R) (.trans (bK (by simp[wkO,Mk4.set,mK];done)) (dP _ _ _ _ _ _ R)) rfl
theorem xQ (hst:aC G) (hsm:m.small 1048576) (j:Nat) (tx:ByteArray) (hj:j<m.processes.length) (hr:Rch m (.prc j)):wkC G s b m q 234 [.mp s b 0,.agg [.int .i64 9,.int .i64 (j:Int),.str tx]] [.prc j]:=by
 intro t z hw
 refine aA Tryz.func234 rfl Tryz.ntmps234 rfl rfl rfl fun w0 R gs objsR hG hR=>?_
 obtain rfl:=hR.eq
 clear hR
 have hlen:=hw.len
 have z1:=hsm.2.1.2.1.1
 have z2:=hsm.2.2.1.1
 have z3:=hsm.2.2.2.1.1
 have z4:=hsm.2.2.2.2.1.1
 have htot:t.2.length<=4194304:=by unfold zI at hlen;omega
 have hfl:=hw.fits.2.2.2
 have hjt:j<t.1.p.length:=by omega
 have hrow:=fe hjt
 have hbl:=ff t.1.p
 have hhas:=acr (t:=t.1) hjt
 have hin:=nY (G:=G) hjt
 have hFm:(t.2.map (ab.tw 0)).length=t.2.length:=Ze _
 have hrs:t.2.map (ab.tw 0)++[[.int .i64 9,.int .i64 (j:Int),.str tx]]=(t.2++[(⟨9,j,tx⟩:ab)]).map (ab.tw 0):=by simp[ab.tw]
 refine aV (objs':=(s,b,_)::(q.1.1,q.1.2,_)::(q.2.1.1,q.2.1.2,_)::(q.2.2.1.1,q.2.2.1.2,_)::(q.2.2.2.1,q.2.2.2.2,_)::(z.1,z.2,_)::R) (bK rfl) ?_
 refine aV (iA _ _ _ _ _ _ _) ?_
 by_cases hm:t.1.p[j]=true
 ·rw[hm] at hrow
  repeat' (first|refine W_ ?_|refine aN ?_|refine ad hG hst (hin) ?_)
  exact bC x_ rfl (z,t) (Wp.refl hw fun x hx=>by rw[Zy] at hx;exact hx ▸ hhas.2 hm) rfl (.app _ R) (dP _ _ _ _ _ _ R) rfl
 ·have hm2:t.1.p[j]=false:=by simpa using hm
  rw[hm2] at hrow
  have hnh:¬ t.1.has (.prc j):=fun h=>hm (hhas.1 h)
  have ho:OkV m ⟨9,j,tx⟩:=⟨(by decide:(6:Int)<=9),(by decide:(9:Int)<=9),Y2 _,hj⟩
  have hpo:Wp m [.prc j] t (t.1.set (.prc j),t.2++[(⟨9,j,tx⟩:ab)]):=Wp.mark (v:=⟨9,j,tx⟩) hw ho hr hnh
  repeat' (first|refine W_ ?_|refine aN ?_|refine bm ?_|refine ad hG hst (hin) ?_|((with_reducible apply eS (id:=12) 8);kernel_rfl;kernel_rfl;kernel_rfl;rfl;(repeat (first|exact Cut.zero _|apply Cut.succ)))|((with_reducible apply m_q);exact ym_;rfl;exact eh)|((with_reducible apply cr);rfl;(intro p;try dsimp only);(repeat (first|exact TB.nil _|((with_reducible apply TB.cons);rfl;rfl;(first|exact .nil _|exact .put _ _ _ _ _ (.nil _)|exact .skip _ _ _ _ _ (.put _ _ _ _ _ (.nil _))|exact .skip _ _ _ _ _ (.skip _ _ _ _ _ (.put _ _ _ _ _ (.nil _)))|(repeat (first|exact .nil _|apply aY.put|apply aY.skip)));kernel_rfl)));rfl;kernel_rfl;kernel_rfl;exact eh)|((with_reducible apply i5);(intro p;rfl);rfl;kernel_rfl;kernel_rfl;rfl;kernel_rfl;rfl;(intro p;rfl);rfl;(intro p;rfl);exact eh)|((with_reducible apply jA);(intro p;rfl);(intro p;rfl);rfl;kernel_rfl;(intro p;rfl);exact hFm;(intro p;show List.length _=1;rfl);omega;exact fun p=>hrs;exact⟨by decide,by decide⟩;exact oE;rfl;(focus (simp;done)))|(with_reducible refine DM.nil _ _ _ ?_))
  intro p hp
  refine aT (objs':=(z.1,(p 7).b,.row 3 ((t.2++[(⟨9,j,tx⟩:ab)]).map (ab.tw 0)))::(s,b,_)::(q.1.1,q.1.2,_)::(q.2.1.1,q.2.1.2,_)::(q.2.2.1.1,q.2.2.1.2,_)::(q.2.2.2.1,q.2.2.2.2,_)::R) (by rw[show ed _=[_] from rfl];(try simp only[ZB,ZM,Zo,Zh,ZD,Zz]);(try rfl)) ?_
  dsimp only [Nat.reduceAdd] at hp |-
  generalize Yu.b (p 7)=bb
  repeat' (first|refine W_ ?_|refine ac ?_)
  refine bC x_ rfl ((z.1,bb),(t.1.set (.prc j),t.2++[(⟨9,j,tx⟩:ab)])) hpo rfl (.app _ R) (.trans (bK (by simp[wkO,Mk4.set,mK];done)) (dP _ _ _ _ _ _ R)) rfl
theorem aaK (hst:aC G) (hsm:m.small 1048576) (v:ab) (h:v.kind<6\/9<v.kind\/v.number<0):wkC G s b m q 234 [.mp s b 0,.agg [.int .i64 v.kind,.int .i64 v.number,.str v.text]] []:=by
 intro t z hw
 refine aA Tryz.func234 rfl Tryz.ntmps234 rfl rfl rfl fun w0 R gs objsR hG hR=>?_
 obtain rfl:=hR.eq
 clear hR
 refine aV (objs':=(s,b,_)::(q.1.1,q.1.2,_)::(q.2.1.1,q.2.1.2,_)::(q.2.2.1.1,q.2.2.1.2,_)::(q.2.2.2.1,q.2.2.2.2,_)::(z.1,z.2,_)::R) (bK rfl) ?_
 by_cases h9:v.kind<6\/9<v.kind
 ·have h6:¬ v.kind=6:=by omega
  have h7:¬ v.kind=7:=by omega
  have h8:¬ v.kind=8:=by omega
  have h9':¬ v.kind=9:=by omega
  repeat' (first|refine W_ ?_|refine aN ?_)
  exact bC x_ rfl (z,t) (Wp.refl hw fun x hx=>by simp at hx) rfl (.app _ R) (.refl _) rfl
 ·have hneg:v.number<0:=by omega
  have hin:∀h,Ct Tryz.prog G 99 [.int .i64 v.number,.int .i64 0,.int .i64 h] (fun _=>.bool false):=fun h=>ae5 hneg
  have hk:v.kind=6\/v.kind=7\/v.kind=8\/v.kind=9:=by omega
  have z1:=hsm.2.1.2.1.1
  have z2:=hsm.2.2.1.1
  have z3:=hsm.2.2.2.1.1
  have z4:=hsm.2.2.2.2.1.1
  obtain⟨f1,f2,f3,f4⟩:=hw.fits
  obtain⟨kd,num,tx⟩:=v
  dsimp only at hneg hin hk h9 |-
  rcases hk with rfl|rfl|rfl|rfl
  all_goals
    repeat' (first|refine W_ ?_|refine aN ?_|refine ad hG hst (hin _) ?_)
    exact bC x_ rfl (z,t) (Wp.refl hw fun x hx=>by simp at hx) rfl (.app _ R) (.refl _) rfl
theorem dF (hst:aC G) (hsm:m.small 1048576) (v:ab) (K:List Nd) (h:rn m v K):wkC G s b m q 234 [.mp s b 0,.agg [.int .i64 v.kind,.int .i64 v.number,.str v.text]] K:=by
 cases h with
 | no h=>exact aaK hst hsm v h
 | yes ho hr =>
   obtain⟨kd,num,tx⟩:=v
   obtain⟨hl,hh,h0,hi⟩:=ho
   dsimp only at hl hh h0 |-
   obtain⟨j,rfl⟩:=Z5 h0
   have hk:kd=6\/kd=7\/kd=8\/kd=9:=by omega
   rcases hk with rfl|rfl|rfl|rfl
   ·exact wU hst hsm j tx hi hr
   ·exact xX hst hsm j tx hi hr
   ·exact wj hst hsm j tx hi hr
   ·exact xQ hst hsm j tx hi hr
end
section
variable {G:World->Prop} {s b f lo:Nat} {m:ah} {q:Rp}
theorem fE (hst:aC G) (hsm:m.small 1048576) (l:List ab) (hl:l.length<=1048576) (hv:∀v∈l,iP m v) (hr:∀x∈l.flatMap eg,Rch m x):wkC G s b m q 285 [.mp s b 0,.sl lo 3 (l.map (ab.tw lo))] (l.flatMap eg):=by
 intro t z hw
 refine aA Tryz.func285 rfl Tryz.ntmps285 rfl rfl rfl fun w0 R gs objsR hG hR=>?_
 obtain rfl:=hR.eq
 clear hR
 have hll:=ab.len lo l
 refine aV (objs':=(s,b,_)::(q.1.1,q.1.2,_)::(q.2.1.1,q.2.1.2,_)::(q.2.2.1.1,q.2.2.1.2,_)::(q.2.2.2.1,q.2.2.2.2,_)::(z.1,z.2,_)::R) (bK rfl) ?_
 repeat' refine W_ ?_
 have hu0:Wp m ((l.take 0).flatMap eg) t t:=Wp.refl hw fun x hx=>absurd hx (by simp)
 apply aj (X:=Nat×(Nat×Nat)×(Mk4×List ab)) [0,1,1000000] (fun y=>[(4,.int .i64 (y.1:Int))])
   (fun y=>wkO s b q y.2.1 y.2.2++R)
   (fun y=>y.1<=l.length/\Wp m ((l.take y.1).flatMap eg) t y.2.2) (fun y=>l.length - y.1) (0,z,t) ⟨Zd _,hu0⟩
 exact kp_;exact nw_
 ·exact .refl _
 rintro ⟨i,z,u⟩ ⟨hi,hu⟩
 dsimp only at hi hu |-
 by_cases hlt:i<l.length
 ·have hgi:(l.map (ab.tw lo))[i]?=some (l[i].tw lo):=aK hlt
  have hvi:=hv _ (Zb hlt)
  have hri:∀x∈eg l[i],Rch m x:=fun x hx=>hr x (List.mem_flatMap.2 ⟨_,Zb hlt,hx⟩)
  have htk:l.take (i+1)=l.take i++[l[i]]:=(Z9 hlt).symm
  generalize l[i]=v at hgi hvi hri htk
  rw[show v.tw lo=[.int .i64 v.kind,.int .i64 v.number,.str v.text] from rfl] at hgi
  have hct:=dF (s:=s) (b:=b) (q:=q) hst hsm v (eg v) (fo hvi hri) u z hu.wk
  repeat' (first|refine W_ ?_|((with_reducible apply aB);rfl;kernel_rfl;(repeat (first|exact ay.nil|((with_reducible apply ay.cons);rfl)));exact hG;exact hct;exact .app _ _;intro y2 hu2))
  refine ag (i+1,y2.1,y2.2) ⟨by dsimp only;omega,by dsimp only;rw[htk,Xe];simpa using hu.trans hu2⟩ (by dsimp only;omega) (.of _ nw_ od_ (.refl _))
 ·obtain rfl:i=l.length:=by omega
  rw[Zc (Zf _)] at hu
  repeat' refine W_ ?_
  exact bC x_ rfl (z,u) hu rfl (.app _ R) (.refl _) rfl
theorem dq (hst:aC G) (hsm:m.small 1048576) (k:Int) (hk:k<m.contexts.length) (hr:∀x∈fb k,Rch m x):wkC G s b m q 286 [.mp s b 0,.int .i64 k] (fb k):=by
 intro t z hw
 refine aA Tryz.func286 rfl Tryz.ntmps286 rfl rfl rfl fun w0 R gs objsR hG hR=>?_
 obtain rfl:=hR.eq
 clear hR
 have hct:=dF (s:=s) (b:=b) (q:=q) hst hsm (agi k) (fb k) (aah hk hr) t z hw
 rw[show (agi k).kind=8 from rfl,show (agi k).number=k from rfl,show (agi k).text=⟨#[]⟩ from rfl] at hct
 repeat' (first|refine W_ ?_|refine fg ?_|((with_reducible apply aB);rfl;kernel_rfl;(repeat (first|exact ay.nil|((with_reducible apply ay.cons);rfl)));exact hG;exact hct;exact .app _ _;intro y2 hu2))
 exact bC x_ rfl y2 hu2 rfl (.app _ R) (.refl _) rfl
end
theorem yN (x:Nat×Nat×aW) (A R:aJ):bW (A++x::R) (x::(A++R)):=.perm Z2
def ac4 (o:az) (i:Nat):List Nd:=(if o.kind=1/\i<2 then fb (o.numbers.getD i 0) else [])++(if o.kind=3/\0<i then [.prc (o.numbers.getD i 0).toNat] else [])
theorem aer {o:az} {i:Nat} (h:i<o.numbers.length) {x:Nd} (hx:x∈ac4 o i):x∈zG o:=by
 unfold ac4 at hx
 rw[show o.numbers.getD i 0=o.numbers[i] by simp[h]] at hx
 unfold zG
 rcases List.mem_append.1 hx with hx|hx
 ·split at hx
  ·rename_i hc
   refine Zj _ (Zk _ ?_)
   rw[if_pos hc.1]
   exact List.mem_flatMap.2 ⟨_,List.mem_iff_getElem.2 ⟨i,by simp;omega,by simp⟩,hx⟩
  ·simp at hx
 ·split at hx
  ·rename_i hc
   refine Zj _ (Zj _ ?_)
   rw[if_pos hc.1]
   refine List.mem_map.2 ⟨_,List.mem_iff_getElem.2 ⟨i - 1,by simp;omega, ?_⟩,(List.mem_singleton.1 hx).symm⟩
   simp only[Xo]
   congr 1
   omega
  ·simp at hx
theorem aej {o:az} {x:Nd} (hx:x∈zG o):x∈o.fields.flatMap eg++(List.range o.numbers.length).flatMap (ac4 o):=by
 unfold zG at hx
 rcases List.mem_append.1 hx with hx|hx
 ·exact Zk _ hx
 ·refine Zj _ ?_
  rcases List.mem_append.1 hx with hx|hx
  ·split at hx
   ·rename_i hc
    obtain⟨k,hk,hxk⟩:=List.mem_flatMap.1 hx
    obtain⟨i,hi,rfl⟩:=List.mem_iff_getElem.1 hk
    simp only[Zu] at hi
    refine List.mem_flatMap.2 ⟨i,List.mem_range.2 (by omega),Zk _ ?_⟩
    rw[if_pos ⟨hc,by omega⟩,show o.numbers.getD i 0=o.numbers[i] by simp[show i<o.numbers.length by omega]]
    simpa using hxk
   ·simp at hx
  ·split at hx
   ·rename_i hc
    obtain⟨k,hk,rfl⟩:=List.mem_map.1 hx
    obtain⟨i,hi,rfl⟩:=List.mem_iff_getElem.1 hk
    simp only[Yw] at hi
    refine List.mem_flatMap.2 ⟨i+1,List.mem_range.2 (by omega),Zj _ ?_⟩
    rw[if_pos ⟨hc,by omega⟩,show o.numbers.getD (i+1) 0=o.numbers[i+1] by simp[show i+1<o.numbers.length by omega]]
    simp only[Xo,Zy]
    congr 3
    omega
   ·simp at hx
section
variable {G:World->Prop} {s b f lo:Nat} {m:ah} {q:Rp}
theorem vZ (hst:aC G) (hN:vP m) (hsm:m.small 1048576) (j:Nat) (tx:ByteArray) (hj:j<m.store.objects.length) (hr:∀x∈iI m (.obj j),Rch m x):wkC G s b m q 235 [.cp f (m.tw lo),.mp s b 0,.agg [.int .i64 6,.int .i64 (j:Int),.str tx]] (iI m (.obj j)):=by
 intro t z hw
 refine aA Tryz.func235 rfl Tryz.ntmps235 rfl rfl rfl fun w0 R gs objsR hG hR=>?_
 obtain rfl:=hR.eq
 clear hR
 have hol:=az.len lo m.store.objects
 have ho1:=hsm.2.1.2.1.1
 have hosm:=hsm.2.1.2.1.2 _ (Zb hj)
 have hom:=Zb hj
 have hsuc:iI m (.obj j)=zG m.store.objects[j]:=by simp[iI,hj]
 rw[hsuc] at hr |-
 have hfld:=hN.fld _ hom
 have hn1:m.store.objects[j].kind=1->∀i (h:i<m.store.objects[j].numbers.length),i<2->m.store.objects[j].numbers[i]<m.contexts.length:=fun hk i hi h2=>by
   rcases hN.one _ hom hk with h|⟨a,b,c,h,ha,hb⟩
   ·rw[h] at hi;simp at hi
   ·simp only[h]
    match i,h2 with
    | 0,_=>exact ha.2
    | 1,_=>exact hb.2
 have hn3:m.store.objects[j].kind=3->∀i (h:i<m.store.objects[j].numbers.length),0<i->0<=m.store.objects[j].numbers[i]/\m.store.objects[j].numbers[i]<m.processes.length:=fun hk i hi h2 =>
   (hN.sem _ hom hk).2 _ (List.mem_iff_getElem.2 ⟨i - 1,by simp;omega,by simp only[Xo];congr 1;omega⟩)
 have hrow:=lT (lo:=lo) hj
 generalize m.store.objects[j]=o at hr hosm hfld hn1 hn3 hrow |-
 obtain⟨⟨zf,_⟩,zn⟩:=hosm
 have c1:=fE (s:=s) (b:=b) (q:=q) (lo:=lo) hst hsm o.fields zf hfld (fun x hx=>hr x (Zk _ hx)) t z hw
 unfold ah.tw
 repeat' (first|refine H_ 4 ?_|refine aN ?_|refine ac ?_|((with_reducible apply nU (id:=3) 9);kernel_rfl;kernel_rfl;kernel_rfl;(repeat (first|exact Cut.zero _|apply Cut.succ));rfl;rfl;rfl;rfl;rfl;kernel_rfl;rfl)|((with_reducible apply u_y);exact yu_;rfl)|(with_reducible refine yh ?_;intro ss bb))
 refine⟨?_⟩
 generalize ss=s6;generalize bb=b6
 refine aV (yN _ _ _) ?_
 refine aV (objs':=(s,b,_)::(q.1.1,q.1.2,_)::(q.2.1.1,q.2.1.2,_)::(q.2.2.1.1,q.2.2.1.2,_)::(q.2.2.2.1,q.2.2.2.2,_)::(z.1,z.2,_)::(s6,b6,_)::R) (bK rfl) ?_
 repeat' (first|refine W_ ?_|((with_reducible apply aB);rfl;kernel_rfl;(repeat (first|exact ay.nil|((with_reducible apply ay.cons);rfl)));exact hG;exact c1;exact .cons _ _ _ _ (.cons _ _ _ _ (.cons _ _ _ _ (.cons _ _ _ _ (.cons _ _ _ _ (.cons _ _ _ _ (.nil _))))));intro u1 a1;refine aT (objs':=(s,b,_)::(q.1.1,q.1.2,_)::(q.2.1.1,q.2.1.2,_)::(q.2.2.1.1,q.2.2.1.2,_)::(q.2.2.2.1,q.2.2.2.2,_)::(u1.1.1,u1.1.2,_)::(s6,b6,_)::R) rfl ?_))
 have hu0:Wp m (o.fields.flatMap eg++(List.range 0).flatMap (ac4 o)) t u1.2:=by simpa using a1
 apply aj (X:=Nat×(Nat×Nat)×(Mk4×List ab)) [1,6,1000000] (fun y=>[(7,.int .i64 (y.1:Int))])
   (fun y=>(s,b,.box [.ms q.1.1 q.1.2 0 y.2.2.1.o.length,.ms q.2.1.1 q.2.1.2 0 y.2.2.1.b.length,.ms q.2.2.1.1 q.2.2.1.2 0 y.2.2.1.c.length,.ms q.2.2.2.1 q.2.2.2.2 0 y.2.2.1.p.length,.ms y.2.1.1 y.2.1.2 0 y.2.2.2.length])::(q.1.1,q.1.2,.row 1 (bR y.2.2.1.o))::(q.2.1.1,q.2.1.2,.row 1 (bR y.2.2.1.b))::(q.2.2.1.1,q.2.2.1.2,.row 1 (bR y.2.2.1.c))::(q.2.2.2.1,q.2.2.2.2,.row 1 (bR y.2.2.1.p))::(y.2.1.1,y.2.1.2,.row 3 (y.2.2.2.map (ab.tw 0)))::(s6,b6,.box [.int .i64 o.kind,.int .i64 o.class_,.sl lo 3 (o.fields.map (ab.tw lo)),.sl lo 1 (aL o.numbers)])::R)
   (fun y=>y.1<=o.numbers.length/\Wp m (o.fields.flatMap eg++(List.range y.1).flatMap (ac4 o)) t y.2.2) (fun y=>o.numbers.length - y.1) (0,u1.1,u1.2) ⟨Zd _,hu0⟩
 exact kp_;exact nw_
 ·exact .refl _
 rintro ⟨i,z2,u⟩ ⟨hi,hu⟩
 dsimp only at hi hu |-
 have hnl:=ae o.numbers
 by_cases hlt:i<o.numbers.length
 ·have hgi:(aL o.numbers)[i]?=some [.int .i64 o.numbers[i]]:=aK hlt
  have hsn:(List.range (i+1)).flatMap (ac4 o)=(List.range i).flatMap (ac4 o)++ac4 o i:=by rw[List.range_succ,Xe];simp
  have hgd:o.numbers.getD i 0=o.numbers[i]:=by simp[hlt]
  have hsub:=fun x hx=>aer (o:=o) hlt (x:=x) hx
  have hn1:=fun hk=>hn1 hk i hlt
  have hn3:=fun hk=>hn3 hk i hlt
  obtain⟨nn,hnn⟩:∃nn,nn=ac4 o i:=⟨_,rfl⟩
  rw[<- hnn] at hsn hsub
  unfold ac4 at hnn
  rw[hgd] at hnn
  generalize o.numbers[i]=k at hgi hnn hn1 hn3
  by_cases h1:o.kind=1
  ·have h3:¬ o.kind=3:=by omega
   by_cases h2:i<2
   ·rw[if_pos ⟨h1,h2⟩,if_neg (fun h=>h3 h.1),Zo] at hnn
    subst hnn
    have c2:=dq (s:=s) (b:=b) (q:=q) hst hsm k (hn1 h1 h2) (fun x hx=>hr x (hsub x hx)) u z2 hu.wk
    repeat' (first|refine W_ ?_|((with_reducible apply aB);rfl;kernel_rfl;(repeat (first|exact ay.nil|((with_reducible apply ay.cons);rfl)));exact hG;exact c2;exact .cons _ _ _ _ (.cons _ _ _ _ (.cons _ _ _ _ (.cons _ _ _ _ (.cons _ _ _ _ (.cons _ _ _ _ (.nil _))))));intro u3 a3;refine aT (objs':=(s,b,_)::(q.1.1,q.1.2,_)::(q.2.1.1,q.2.1.2,_)::(q.2.2.1.1,q.2.2.1.2,_)::(q.2.2.2.1,q.2.2.2.2,_)::(u3.1.1,u3.1.2,_)::(s6,b6,_)::R) rfl ?_))
    refine ag (i+1,u3.1,u3.2) ⟨by dsimp only;omega,by dsimp only;rw[hsn,<- Zh];exact hu.trans a3⟩ (by dsimp only;omega) (.of _ nw_ od_ (.refl _))
   ·rw[if_neg (fun h=>h2 h.2),if_neg (fun h=>h3 h.1),Zo] at hnn
    subst hnn
    rw[Zo] at hsn
    repeat' refine W_ ?_
    refine ag (i+1,z2,u) ⟨by dsimp only;omega,by dsimp only;rw[hsn];exact hu⟩ (by dsimp only;omega) (.of _ nw_ od_ (.refl _))
  ·by_cases h3:o.kind=3
   ·by_cases h2:0<i
    ·rw[if_neg (fun h=>h1 h.1),if_pos ⟨h3,h2⟩,Zz] at hnn
     subst hnn
     have hkk:=hn3 h3 h2
     have c2:=dF (s:=s) (b:=b) (q:=q) hst hsm (tF k) [.prc k.toNat] (jS hkk.1 hkk.2 (hr _ (hsub _ (List.mem_singleton.2 rfl)))) u z2 hu.wk
     rw[show (tF k).kind=9 from rfl,show (tF k).number=k from rfl,show (tF k).text=⟨#[]⟩ from rfl] at c2
     repeat' (first|refine W_ ?_|refine fg ?_|((with_reducible apply aB);rfl;kernel_rfl;(repeat (first|exact ay.nil|((with_reducible apply ay.cons);rfl)));exact hG;exact c2;exact .cons _ _ _ _ (.cons _ _ _ _ (.cons _ _ _ _ (.cons _ _ _ _ (.cons _ _ _ _ (.cons _ _ _ _ (.nil _))))));intro u3 a3;refine aT (objs':=(s,b,_)::(q.1.1,q.1.2,_)::(q.2.1.1,q.2.1.2,_)::(q.2.2.1.1,q.2.2.1.2,_)::(q.2.2.2.1,q.2.2.2.2,_)::(u3.1.1,u3.1.2,_)::(s6,b6,_)::R) rfl ?_))
     refine ag (i+1,u3.1,u3.2) ⟨by dsimp only;omega,by dsimp only;rw[hsn,<- Zh];exact hu.trans a3⟩ (by dsimp only;omega) (.of _ nw_ od_ (.refl _))
    ·rw[if_neg (fun h=>h1 h.1),if_neg (fun h=>h2 h.2),Zo] at hnn
     subst hnn
     rw[Zo] at hsn
     repeat' refine W_ ?_
     refine ag (i+1,z2,u) ⟨by dsimp only;omega,by dsimp only;rw[hsn];exact hu⟩ (by dsimp only;omega) (.of _ nw_ od_ (.refl _))
   ·rw[if_neg (fun h=>h1 h.1),if_neg (fun h=>h3 h.1),Zo] at hnn
    subst hnn
    rw[Zo] at hsn
    repeat' refine W_ ?_
    refine ag (i+1,z2,u) ⟨by dsimp only;omega,by dsimp only;rw[hsn];exact hu⟩ (by dsimp only;omega) (.of _ nw_ od_ (.refl _))
 ·obtain rfl:i=o.numbers.length:=by omega
  repeat' refine W_ ?_
  exact bC x_ rfl (z2,u) (hu.sub fun x hx=>aej hx) rfl (.app _ R) (.sub (.cons_cons _ (.cons_cons _ (.cons_cons _ (.cons_cons _ (.cons_cons _ (.cons_cons _ (.cons _ (Z0 _))))))))) rfl
end
section
variable {G:World->Prop} {s b f lo:Nat} {m:ah} {q:Rp}
theorem vY (hst:aC G) (hN:vP m) (hsm:m.small 1048576) (j:Nat) (tx:ByteArray) (hj:j<m.blocks.length) (hr:∀x∈iI m (.blk j),Rch m x):wkC G s b m q 235 [.cp f (m.tw lo),.mp s b 0,.agg [.int .i64 7,.int .i64 (j:Int),.str tx]] (iI m (.blk j)):=by
 intro t z hw
 refine aA Tryz.func235 rfl Tryz.ntmps235 rfl rfl rfl fun w0 R gs objsR hG hR=>?_
 obtain rfl:=hR.eq
 clear hR
 have hp1:=hsm.2.2.1.1
 have hlp:=ap.len lo m.blocks
 obtain⟨hv,hou,_⟩:=hN.blk _ (Zb hj)
 have hsuc:iI m (.blk j)=fb m.blocks[j].outer++eg m.blocks[j].self:=by simp[iI,hj]
 rw[hsuc] at hr |-
 have hrow2:=mb (lo:=lo) hj
 generalize m.blocks[j]=pr at hr hv hou hrow2 |-
 have c1:=dq (s:=s) (b:=b) (q:=q) hst hsm pr.outer hou.2 (fun x hx=>hr x (Zk _ hx)) t z hw
 refine aV (objs':=(s,b,_)::(q.1.1,q.1.2,_)::(q.2.1.1,q.2.1.2,_)::(q.2.2.1.1,q.2.2.1.2,_)::(q.2.2.2.1,q.2.2.2.2,_)::(z.1,z.2,_)::R) (bK rfl) ?_
 unfold ah.tw
 repeat' (first|refine W_ ?_|refine aN ?_|((with_reducible apply dI (id:=13) 10);kernel_rfl;kernel_rfl;kernel_rfl;(repeat (first|exact Cut.zero _|apply Cut.succ)))|((with_reducible apply dI (id:=14) 10);kernel_rfl;kernel_rfl;kernel_rfl;(repeat (first|exact Cut.zero _|apply Cut.succ)))|with_reducible refine eu (by kernel_rfl) (by kernel_rfl) ?_|with_reducible refine gu ?_|with_reducible refine ei ?_|with_reducible refine ek rfl ?_|refine gw rfl rfl rfl rr_ ?_|refine et rfl rfl rfl rr_ rfl rfl rfl ?_|refine dr rfl rfl rfl rr_ rfl rfl ?_|(refine ks rfl rfl rfl rr_ dd_ ?_)|(refine ky rfl rfl rfl rr_ dd_ ?_)|(refine cA rfl rfl rfl rr_ (fun hg=>?_) (fun hg=>?_))|(refine bX rfl rfl rfl rr_ (fun hg=>?_) (fun hg=>?_))|((with_reducible apply d_y);exact y_;rfl)|((with_reducible apply aB);rfl;kernel_rfl;(repeat (first|exact ay.nil|((with_reducible apply ay.cons);rfl)));exact hG;exact c1;exact .cons _ _ _ _ (.cons _ _ _ _ (.cons _ _ _ _ (.cons _ _ _ _ (.cons _ _ _ _ (.cons _ _ _ _ (.nil _))))));intro u1 a1;refine aT (objs':=(s,b,_)::(q.1.1,q.1.2,_)::(q.2.1.1,q.2.1.2,_)::(q.2.2.1.1,q.2.2.1.2,_)::(q.2.2.2.1,q.2.2.2.2,_)::(u1.1.1,u1.1.2,_)::R) rfl ?_))
 have c2:=dF (s:=s) (b:=b) (q:=q) hst hsm pr.self (eg pr.self) (fo hv (fun x hx=>hr x (Zj _ hx))) u1.2 u1.1 a1.wk
 repeat' (first|refine W_ ?_|((with_reducible apply aB);rfl;kernel_rfl;(repeat (first|exact ay.nil|((with_reducible apply ay.cons);rfl)));exact hG;exact c2;exact .cons _ _ _ _ (.cons _ _ _ _ (.cons _ _ _ _ (.cons _ _ _ _ (.cons _ _ _ _ (.cons _ _ _ _ (.nil _))))));intro u2 a2;refine aT (objs':=(s,b,_)::(q.1.1,q.1.2,_)::(q.2.1.1,q.2.1.2,_)::(q.2.2.1.1,q.2.2.1.2,_)::(q.2.2.2.1,q.2.2.2.2,_)::(u2.1.1,u2.1.2,_)::R) rfl ?_))
 exact bC x_ rfl u2 (a1.trans a2) rfl (.app _ R) (.refl _) rfl
theorem wP (hst:aC G) (hN:vP m) (hsm:m.small 1048576) (j:Nat) (tx:ByteArray) (hj:j<m.processes.length) (hr:∀x∈iI m (.prc j),Rch m x):wkC G s b m q 235 [.cp f (m.tw lo),.mp s b 0,.agg [.int .i64 9,.int .i64 (j:Int),.str tx]] (iI m (.prc j)):=by
 intro t z hw
 refine aA Tryz.func235 rfl Tryz.ntmps235 rfl rfl rfl fun w0 R gs objsR hG hR=>?_
 obtain rfl:=hR.eq
 clear hR
 have hp1:=hsm.2.2.2.2.1.1
 have hlp:=ao.len lo m.processes
 have hat:=hN.prc _ (Zb hj)
 have hsuc:iI m (.prc j)=fb m.processes[j].at_:=by simp[iI,hj]
 rw[hsuc] at hr |-
 have hrow2:=oo (lo:=lo) hj
 generalize m.processes[j]=pr at hr hat hrow2 |-
 have c1:=dq (s:=s) (b:=b) (q:=q) hst hsm pr.at_ hat.2 hr t z hw
 refine aV (objs':=(s,b,_)::(q.1.1,q.1.2,_)::(q.2.1.1,q.2.1.2,_)::(q.2.2.1.1,q.2.2.1.2,_)::(q.2.2.2.1,q.2.2.2.2,_)::(z.1,z.2,_)::R) (bK rfl) ?_
 unfold ah.tw
 repeat' (first|refine W_ ?_|refine aN ?_|((with_reducible apply dI (id:=27) 10);kernel_rfl;kernel_rfl;kernel_rfl;(repeat (first|exact Cut.zero _|apply Cut.succ)))|with_reducible refine eu (by kernel_rfl) (by kernel_rfl) ?_|with_reducible refine gu ?_|with_reducible refine ei ?_|with_reducible refine ek rfl ?_|refine gw rfl rfl rfl rr_ ?_|refine et rfl rfl rfl rr_ rfl rfl rfl ?_|refine dr rfl rfl rfl rr_ rfl rfl ?_|(refine ks rfl rfl rfl rr_ dd_ ?_)|(refine ky rfl rfl rfl rr_ dd_ ?_)|(refine cA rfl rfl rfl rr_ (fun hg=>?_) (fun hg=>?_))|(refine bX rfl rfl rfl rr_ (fun hg=>?_) (fun hg=>?_))|((with_reducible apply d_y);exact y_;rfl)|((with_reducible apply aB);rfl;kernel_rfl;(repeat (first|exact ay.nil|((with_reducible apply ay.cons);rfl)));exact hG;exact c1;exact .cons _ _ _ _ (.cons _ _ _ _ (.cons _ _ _ _ (.cons _ _ _ _ (.cons _ _ _ _ (.cons _ _ _ _ (.nil _))))));intro u1 a1;refine aT (objs':=(s,b,_)::(q.1.1,q.1.2,_)::(q.2.1.1,q.2.1.2,_)::(q.2.2.1.1,q.2.2.1.2,_)::(q.2.2.2.1,q.2.2.2.2,_)::(u1.1.1,u1.1.2,_)::R) rfl ?_))
 exact bC x_ rfl u1 a1 rfl (.app _ R) (.refl _) rfl
theorem wn (hst:aC G) (hN:vP m) (hsm:m.small 1048576) (j:Nat) (tx:ByteArray) (hj:j<m.contexts.length) (hr:∀x∈iI m (.ctx j),Rch m x):wkC G s b m q 235 [.cp f (m.tw lo),.mp s b 0,.agg [.int .i64 8,.int .i64 (j:Int),.str tx]] (iI m (.ctx j)):=by
 intro t z hw
 refine aA Tryz.func235 rfl Tryz.ntmps235 rfl rfl rfl fun w0 R gs objsR hG hR=>?_
 obtain rfl:=hR.eq
 clear hR
 have hp1:=hsm.2.2.2.1.1
 have hlp:=aq.len lo m.contexts
 obtain⟨hsd,hou,hho,hot,hse,hsl,hsk,hva⟩:=hN.ctx j hj
 have hosm:=hsm.2.2.2.1.2 _ (Zb hj)
 have hsuc:iI m (.ctx j)=cxN m.contexts[j]:=by simp[iI,hj]
 rw[hsuc] at hr |-
 have hrow2:=dB (lo:=lo) hj
 generalize m.contexts[j]=o at hrow2 hsd hou hho hot hse hsl hsk hva hosm hr |-
 obtain⟨zse,⟨zsl,zsl2⟩,⟨zsk,zsk2⟩,zva,zva2⟩:=hosm
 have hin:∀x,(x∈fb o.sender\/x∈fb o.outer\/x∈fb o.home\/x∈(if o.mark=3\/o.mark=5 then fb o.other else [])\/x∈eg o.self\/x∈o.slots.flatMap eg\/x∈o.stack.flatMap eg\/x∈o.values.flatMap eg)->Rch m x:=fun x h=>hr x (by unfold cxN;simpa only [ZI] using h)
 have c1:=dq (s:=s) (b:=b) (q:=q) hst hsm o.sender (by omega) (fun x h=>hin x (.inl h)) t z hw
 unfold ah.tw
 repeat' (first|refine H_ 17 ?_|refine aN ?_|refine ac ?_|((with_reducible apply nU (id:=16) 8);kernel_rfl;kernel_rfl;kernel_rfl;(repeat (first|exact Cut.zero _|apply Cut.succ));rfl;rfl;rfl;rfl;rfl;kernel_rfl;rfl)|((with_reducible apply u_y);exact yu_;rfl)|(with_reducible refine yh ?_;intro ss bb))
 refine⟨?_⟩
 generalize ss=s6;generalize bb=b6
 refine aV (yN _ _ _) ?_
 refine aV (objs':=(s,b,_)::(q.1.1,q.1.2,_)::(q.2.1.1,q.2.1.2,_)::(q.2.2.1.1,q.2.2.1.2,_)::(q.2.2.2.1,q.2.2.2.2,_)::(z.1,z.2,_)::(s6,b6,_)::R) (bK rfl) ?_
 repeat' (first|refine H_ 18 ?_|((with_reducible apply aB);rfl;kernel_rfl;(repeat (first|exact ay.nil|((with_reducible apply ay.cons);rfl)));exact hG;exact c1;exact .cons _ _ _ _ (.cons _ _ _ _ (.cons _ _ _ _ (.cons _ _ _ _ (.cons _ _ _ _ (.cons _ _ _ _ (.nil _))))));intro u1 a1;refine aT (objs':=(s,b,_)::(q.1.1,q.1.2,_)::(q.2.1.1,q.2.1.2,_)::(q.2.2.1.1,q.2.2.1.2,_)::(q.2.2.2.1,q.2.2.2.2,_)::(u1.1.1,u1.1.2,_)::(s6,b6,_)::R) rfl ?_))
 refine⟨?_⟩
 have c2:=dq (s:=s) (b:=b) (q:=q) hst hsm o.outer (by omega) (fun x h=>hin x (.inr (.inl h))) u1.2 u1.1 a1.wk
 repeat' (first|refine H_ 19 ?_|((with_reducible apply aB);rfl;kernel_rfl;(repeat (first|exact ay.nil|((with_reducible apply ay.cons);rfl)));exact hG;exact c2;exact .cons _ _ _ _ (.cons _ _ _ _ (.cons _ _ _ _ (.cons _ _ _ _ (.cons _ _ _ _ (.cons _ _ _ _ (.nil _))))));intro u2 a2;refine aT (objs':=(s,b,_)::(q.1.1,q.1.2,_)::(q.2.1.1,q.2.1.2,_)::(q.2.2.1.1,q.2.2.1.2,_)::(q.2.2.2.1,q.2.2.2.2,_)::(u2.1.1,u2.1.2,_)::(s6,b6,_)::R) rfl ?_))
 refine⟨?_⟩
 have c3:=dq (s:=s) (b:=b) (q:=q) hst hsm o.home (by omega) (fun x h=>hin x (.inr (.inr (.inl h)))) u2.2 u2.1 a2.wk
 repeat' (first|refine H_ 20 ?_|((with_reducible apply aB);rfl;kernel_rfl;(repeat (first|exact ay.nil|((with_reducible apply ay.cons);rfl)));exact hG;exact c3;exact .cons _ _ _ _ (.cons _ _ _ _ (.cons _ _ _ _ (.cons _ _ _ _ (.cons _ _ _ _ (.cons _ _ _ _ (.nil _))))));intro u3 a3;refine aT (objs':=(s,b,_)::(q.1.1,q.1.2,_)::(q.2.1.1,q.2.1.2,_)::(q.2.2.1.1,q.2.2.1.2,_)::(q.2.2.2.1,q.2.2.2.2,_)::(u3.1.1,u3.1.2,_)::(s6,b6,_)::R) rfl ?_))
 refine⟨?_⟩
 have e3:=(a1.trans a2).trans a3
 clear a1 a2 c1 c2 c3 hrow2
 have hmk:o.mark=3\/(¬ o.mark=3/\o.mark=5)\/(¬ o.mark=3/\¬ o.mark=5):=by omega
 rcases hmk with h3|⟨h3,h5⟩|⟨h3,h5⟩
 ·have c4:=dq (s:=s) (b:=b) (q:=q) hst hsm o.other (by have:=hot (.inl h3);omega) (fun x h=>hin x (.inr (.inr (.inr (.inl (by rw[if_pos (.inl h3)];exact h)))))) u3.2 u3.1 a3.wk
  repeat' (first|refine H_ 22 ?_|((with_reducible apply aB);rfl;kernel_rfl;(repeat (first|exact ay.nil|((with_reducible apply ay.cons);rfl)));exact hG;exact c4;exact .cons _ _ _ _ (.cons _ _ _ _ (.cons _ _ _ _ (.cons _ _ _ _ (.cons _ _ _ _ (.cons _ _ _ _ (.nil _))))));intro u4 a4;refine aT (objs':=(s,b,_)::(q.1.1,q.1.2,_)::(q.2.1.1,q.2.1.2,_)::(q.2.2.1.1,q.2.2.1.2,_)::(q.2.2.2.1,q.2.2.2.2,_)::(u4.1.1,u4.1.2,_)::(s6,b6,_)::R) rfl ?_))
  refine⟨?_⟩
  have e4:Wp m (fb o.sender++fb o.outer++fb o.home++(if o.mark=3\/o.mark=5 then fb o.other else [])) t u4.2:=by rw[if_pos (.inl h3)];exact e3.trans a4
  clear c4 a4 e3 a3 h3
  have c5:=dF (s:=s) (b:=b) (q:=q) hst hsm o.self (eg o.self) (fo hse (fun x h=>hin x (.inr (.inr (.inr (.inr (.inl h))))))) u4.2 u4.1 e4.wk
  repeat' (first|refine H_ 23 ?_|((with_reducible apply aB);rfl;kernel_rfl;(repeat (first|exact ay.nil|((with_reducible apply ay.cons);rfl)));exact hG;exact c5;exact .cons _ _ _ _ (.cons _ _ _ _ (.cons _ _ _ _ (.cons _ _ _ _ (.cons _ _ _ _ (.cons _ _ _ _ (.nil _))))));intro u5 a5;refine aT (objs':=(s,b,_)::(q.1.1,q.1.2,_)::(q.2.1.1,q.2.1.2,_)::(q.2.2.1.1,q.2.2.1.2,_)::(q.2.2.2.1,q.2.2.2.2,_)::(u5.1.1,u5.1.2,_)::(s6,b6,_)::R) rfl ?_))
  refine⟨?_⟩
  have c6:=fE (s:=s) (b:=b) (q:=q) (lo:=lo) hst hsm o.slots zsl hsl (fun x h=>hin x (.inr (.inr (.inr (.inr (.inr (.inl h))))))) u5.2 u5.1 a5.wk
  repeat' (first|refine H_ 24 ?_|((with_reducible apply aB);rfl;kernel_rfl;(repeat (first|exact ay.nil|((with_reducible apply ay.cons);rfl)));exact hG;exact c6;exact .cons _ _ _ _ (.cons _ _ _ _ (.cons _ _ _ _ (.cons _ _ _ _ (.cons _ _ _ _ (.cons _ _ _ _ (.nil _))))));intro u6 a6;refine aT (objs':=(s,b,_)::(q.1.1,q.1.2,_)::(q.2.1.1,q.2.1.2,_)::(q.2.2.1.1,q.2.2.1.2,_)::(q.2.2.2.1,q.2.2.2.2,_)::(u6.1.1,u6.1.2,_)::(s6,b6,_)::R) rfl ?_))
  refine⟨?_⟩
  have c7:=fE (s:=s) (b:=b) (q:=q) (lo:=lo) hst hsm o.stack zsk hsk (fun x h=>hin x (.inr (.inr (.inr (.inr (.inr (.inr (.inl h)))))))) u6.2 u6.1 a6.wk
  repeat' (first|refine W_ ?_|((with_reducible apply aB);rfl;kernel_rfl;(repeat (first|exact ay.nil|((with_reducible apply ay.cons);rfl)));exact hG;exact c7;exact .cons _ _ _ _ (.cons _ _ _ _ (.cons _ _ _ _ (.cons _ _ _ _ (.cons _ _ _ _ (.cons _ _ _ _ (.nil _))))));intro u7 a7;refine aT (objs':=(s,b,_)::(q.1.1,q.1.2,_)::(q.2.1.1,q.2.1.2,_)::(q.2.2.1.1,q.2.2.1.2,_)::(q.2.2.2.1,q.2.2.2.2,_)::(u7.1.1,u7.1.2,_)::(s6,b6,_)::R) rfl ?_))
  have c8:=fE (s:=s) (b:=b) (q:=q) (lo:=lo) hst hsm o.values zva hva (fun x h=>hin x (.inr (.inr (.inr (.inr (.inr (.inr (.inr h)))))))) u7.2 u7.1 a7.wk
  repeat' (first|refine W_ ?_|((with_reducible apply aB);rfl;kernel_rfl;(repeat (first|exact ay.nil|((with_reducible apply ay.cons);rfl)));exact hG;exact c8;exact .cons _ _ _ _ (.cons _ _ _ _ (.cons _ _ _ _ (.cons _ _ _ _ (.cons _ _ _ _ (.cons _ _ _ _ (.nil _))))));intro u8 a8;refine aT (objs':=(s,b,_)::(q.1.1,q.1.2,_)::(q.2.1.1,q.2.1.2,_)::(q.2.2.1.1,q.2.2.1.2,_)::(q.2.2.2.1,q.2.2.2.2,_)::(u8.1.1,u8.1.2,_)::(s6,b6,_)::R) rfl ?_))
  have e8:=(((e4.trans a5).trans a6).trans a7).trans a8
  refine bC x_ rfl u8 (e8.sub fun x hx=>?_) rfl (.app _ R) (.sub (.cons_cons _ (.cons_cons _ (.cons_cons _ (.cons_cons _ (.cons_cons _ (.cons_cons _ (.cons _ (Z0 _))))))))) rfl
  unfold cxN at hx
  simp only[ZI] at hx |-
  rcases hx with h|h|h|h|h|h|h|h <;> simp only[h,true_or,or_true]
 ·have c4:=dq (s:=s) (b:=b) (q:=q) hst hsm o.other (by have:=hot (.inr h5);omega) (fun x h=>hin x (.inr (.inr (.inr (.inl (by rw[if_pos (.inr h5)];exact h)))))) u3.2 u3.1 a3.wk
  repeat' (first|refine H_ 22 ?_|((with_reducible apply aB);rfl;kernel_rfl;(repeat (first|exact ay.nil|((with_reducible apply ay.cons);rfl)));exact hG;exact c4;exact .cons _ _ _ _ (.cons _ _ _ _ (.cons _ _ _ _ (.cons _ _ _ _ (.cons _ _ _ _ (.cons _ _ _ _ (.nil _))))));intro u4 a4;refine aT (objs':=(s,b,_)::(q.1.1,q.1.2,_)::(q.2.1.1,q.2.1.2,_)::(q.2.2.1.1,q.2.2.1.2,_)::(q.2.2.2.1,q.2.2.2.2,_)::(u4.1.1,u4.1.2,_)::(s6,b6,_)::R) rfl ?_))
  refine⟨?_⟩
  have e4:Wp m (fb o.sender++fb o.outer++fb o.home++(if o.mark=3\/o.mark=5 then fb o.other else [])) t u4.2:=by rw[if_pos (.inr h5)];exact e3.trans a4
  clear c4 a4 e3 a3 h3
  have c5:=dF (s:=s) (b:=b) (q:=q) hst hsm o.self (eg o.self) (fo hse (fun x h=>hin x (.inr (.inr (.inr (.inr (.inl h))))))) u4.2 u4.1 e4.wk
  repeat' (first|refine H_ 23 ?_|((with_reducible apply aB);rfl;kernel_rfl;(repeat (first|exact ay.nil|((with_reducible apply ay.cons);rfl)));exact hG;exact c5;exact .cons _ _ _ _ (.cons _ _ _ _ (.cons _ _ _ _ (.cons _ _ _ _ (.cons _ _ _ _ (.cons _ _ _ _ (.nil _))))));intro u5 a5;refine aT (objs':=(s,b,_)::(q.1.1,q.1.2,_)::(q.2.1.1,q.2.1.2,_)::(q.2.2.1.1,q.2.2.1.2,_)::(q.2.2.2.1,q.2.2.2.2,_)::(u5.1.1,u5.1.2,_)::(s6,b6,_)::R) rfl ?_))
  refine⟨?_⟩
  have c6:=fE (s:=s) (b:=b) (q:=q) (lo:=lo) hst hsm o.slots zsl hsl (fun x h=>hin x (.inr (.inr (.inr (.inr (.inr (.inl h))))))) u5.2 u5.1 a5.wk
  repeat' (first|refine H_ 24 ?_|((with_reducible apply aB);rfl;kernel_rfl;(repeat (first|exact ay.nil|((with_reducible apply ay.cons);rfl)));exact hG;exact c6;exact .cons _ _ _ _ (.cons _ _ _ _ (.cons _ _ _ _ (.cons _ _ _ _ (.cons _ _ _ _ (.cons _ _ _ _ (.nil _))))));intro u6 a6;refine aT (objs':=(s,b,_)::(q.1.1,q.1.2,_)::(q.2.1.1,q.2.1.2,_)::(q.2.2.1.1,q.2.2.1.2,_)::(q.2.2.2.1,q.2.2.2.2,_)::(u6.1.1,u6.1.2,_)::(s6,b6,_)::R) rfl ?_))
  refine⟨?_⟩
  have c7:=fE (s:=s) (b:=b) (q:=q) (lo:=lo) hst hsm o.stack zsk hsk (fun x h=>hin x (.inr (.inr (.inr (.inr (.inr (.inr (.inl h)))))))) u6.2 u6.1 a6.wk
  repeat' (first|refine W_ ?_|((with_reducible apply aB);rfl;kernel_rfl;(repeat (first|exact ay.nil|((with_reducible apply ay.cons);rfl)));exact hG;exact c7;exact .cons _ _ _ _ (.cons _ _ _ _ (.cons _ _ _ _ (.cons _ _ _ _ (.cons _ _ _ _ (.cons _ _ _ _ (.nil _))))));intro u7 a7;refine aT (objs':=(s,b,_)::(q.1.1,q.1.2,_)::(q.2.1.1,q.2.1.2,_)::(q.2.2.1.1,q.2.2.1.2,_)::(q.2.2.2.1,q.2.2.2.2,_)::(u7.1.1,u7.1.2,_)::(s6,b6,_)::R) rfl ?_))
  have c8:=fE (s:=s) (b:=b) (q:=q) (lo:=lo) hst hsm o.values zva hva (fun x h=>hin x (.inr (.inr (.inr (.inr (.inr (.inr (.inr h)))))))) u7.2 u7.1 a7.wk
  repeat' (first|refine W_ ?_|((with_reducible apply aB);rfl;kernel_rfl;(repeat (first|exact ay.nil|((with_reducible apply ay.cons);rfl)));exact hG;exact c8;exact .cons _ _ _ _ (.cons _ _ _ _ (.cons _ _ _ _ (.cons _ _ _ _ (.cons _ _ _ _ (.cons _ _ _ _ (.nil _))))));intro u8 a8;refine aT (objs':=(s,b,_)::(q.1.1,q.1.2,_)::(q.2.1.1,q.2.1.2,_)::(q.2.2.1.1,q.2.2.1.2,_)::(q.2.2.2.1,q.2.2.2.2,_)::(u8.1.1,u8.1.2,_)::(s6,b6,_)::R) rfl ?_))
  have e8:=(((e4.trans a5).trans a6).trans a7).trans a8
  refine bC x_ rfl u8 (e8.sub fun x hx=>?_) rfl (.app _ R) (.sub (.cons_cons _ (.cons_cons _ (.cons_cons _ (.cons_cons _ (.cons_cons _ (.cons_cons _ (.cons _ (Z0 _))))))))) rfl
  unfold cxN at hx
  simp only[ZI] at hx |-
  rcases hx with h|h|h|h|h|h|h|h <;> simp only[h,true_or,or_true]
 ·repeat' refine H_ 22 ?_
  refine⟨?_⟩
  have e4:Wp m (fb o.sender++fb o.outer++fb o.home++(if o.mark=3\/o.mark=5 then fb o.other else [])) t u3.2:=by rw[if_neg (by omega),Zo];exact e3
  clear e3 a3 h3 h5
  generalize u3=u4 at e4 |-
  have c5:=dF (s:=s) (b:=b) (q:=q) hst hsm o.self (eg o.self) (fo hse (fun x h=>hin x (.inr (.inr (.inr (.inr (.inl h))))))) u4.2 u4.1 e4.wk
  repeat' (first|refine H_ 23 ?_|((with_reducible apply aB);rfl;kernel_rfl;(repeat (first|exact ay.nil|((with_reducible apply ay.cons);rfl)));exact hG;exact c5;exact .cons _ _ _ _ (.cons _ _ _ _ (.cons _ _ _ _ (.cons _ _ _ _ (.cons _ _ _ _ (.cons _ _ _ _ (.nil _))))));intro u5 a5;refine aT (objs':=(s,b,_)::(q.1.1,q.1.2,_)::(q.2.1.1,q.2.1.2,_)::(q.2.2.1.1,q.2.2.1.2,_)::(q.2.2.2.1,q.2.2.2.2,_)::(u5.1.1,u5.1.2,_)::(s6,b6,_)::R) rfl ?_))
  refine⟨?_⟩
  have c6:=fE (s:=s) (b:=b) (q:=q) (lo:=lo) hst hsm o.slots zsl hsl (fun x h=>hin x (.inr (.inr (.inr (.inr (.inr (.inl h))))))) u5.2 u5.1 a5.wk
  repeat' (first|refine H_ 24 ?_|((with_reducible apply aB);rfl;kernel_rfl;(repeat (first|exact ay.nil|((with_reducible apply ay.cons);rfl)));exact hG;exact c6;exact .cons _ _ _ _ (.cons _ _ _ _ (.cons _ _ _ _ (.cons _ _ _ _ (.cons _ _ _ _ (.cons _ _ _ _ (.nil _))))));intro u6 a6;refine aT (objs':=(s,b,_)::(q.1.1,q.1.2,_)::(q.2.1.1,q.2.1.2,_)::(q.2.2.1.1,q.2.2.1.2,_)::(q.2.2.2.1,q.2.2.2.2,_)::(u6.1.1,u6.1.2,_)::(s6,b6,_)::R) rfl ?_))
  refine⟨?_⟩
  have c7:=fE (s:=s) (b:=b) (q:=q) (lo:=lo) hst hsm o.stack zsk hsk (fun x h=>hin x (.inr (.inr (.inr (.inr (.inr (.inr (.inl h)))))))) u6.2 u6.1 a6.wk
  repeat' (first|refine W_ ?_|((with_reducible apply aB);rfl;kernel_rfl;(repeat (first|exact ay.nil|((with_reducible apply ay.cons);rfl)));exact hG;exact c7;exact .cons _ _ _ _ (.cons _ _ _ _ (.cons _ _ _ _ (.cons _ _ _ _ (.cons _ _ _ _ (.cons _ _ _ _ (.nil _))))));intro u7 a7;refine aT (objs':=(s,b,_)::(q.1.1,q.1.2,_)::(q.2.1.1,q.2.1.2,_)::(q.2.2.1.1,q.2.2.1.2,_)::(q.2.2.2.1,q.2.2.2.2,_)::(u7.1.1,u7.1.2,_)::(s6,b6,_)::R) rfl ?_))
  have c8:=fE (s:=s) (b:=b) (q:=q) (lo:=lo) hst hsm o.values zva hva (fun x h=>hin x (.inr (.inr (.inr (.inr (.inr (.inr (.inr h)))))))) u7.2 u7.1 a7.wk
  repeat' (first|refine W_ ?_|((with_reducible apply aB);rfl;kernel_rfl;(repeat (first|exact ay.nil|((with_reducible apply ay.cons);rfl)));exact hG;exact c8;exact .cons _ _ _ _ (.cons _ _ _ _ (.cons _ _ _ _ (.cons _ _ _ _ (.cons _ _ _ _ (.cons _ _ _ _ (.nil _))))));intro u8 a8;refine aT (objs':=(s,b,_)::(q.1.1,q.1.2,_)::(q.2.1.1,q.2.1.2,_)::(q.2.2.1.1,q.2.2.1.2,_)::(q.2.2.2.1,q.2.2.2.2,_)::(u8.1.1,u8.1.2,_)::(s6,b6,_)::R) rfl ?_))
  have e8:=(((e4.trans a5).trans a6).trans a7).trans a8
  refine bC x_ rfl u8 (e8.sub fun x hx=>?_) rfl (.app _ R) (.sub (.cons_cons _ (.cons_cons _ (.cons_cons _ (.cons_cons _ (.cons_cons _ (.cons_cons _ (.cons _ (Z0 _))))))))) rfl
  unfold cxN at hx
  simp only[ZI] at hx |-
  rcases hx with h|h|h|h|h|h|h|h <;> simp only[h,true_or,or_true]
end
section
variable {G:World->Prop} {s b f lo:Nat} {m:ah} {q:Rp}
theorem uq (hst:aC G) (hN:vP m) (hsm:m.small 1048576) (v:ab) (ho:OkV m v) (hr:Rch m (ndV v)):wkC G s b m q 235 [.cp f (m.tw lo),.mp s b 0,.agg [.int .i64 v.kind,.int .i64 v.number,.str v.text]] (iI m (ndV v)):=by
 obtain⟨kd,num,tx⟩:=v
 obtain⟨hl,hh,h0,hi⟩:=ho
 dsimp only at hl hh h0 |-
 obtain⟨j,rfl⟩:=Z5 h0
 have hk:kd=6\/kd=7\/kd=8\/kd=9:=by omega
 have hrs:∀x∈iI m (ndV ⟨kd,j,tx⟩),Rch m x:=fun x hx=>.step _ _ hr hx
 rcases hk with rfl|rfl|rfl|rfl
 ·exact vZ hst hN hsm j tx hi hrs
 ·exact vY hst hN hsm j tx hi hrs
 ·exact wn hst hN hsm j tx hi hrs
 ·exact wP hst hN hsm j tx hi hrs
end
end Go.Proofs.YtofnnnpahglfdaaGreatDoor
