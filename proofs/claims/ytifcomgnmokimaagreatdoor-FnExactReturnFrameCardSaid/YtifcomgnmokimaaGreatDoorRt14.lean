/- Part 14 of the proof: the texts MkN, MkC, CpA, CpB, CpC, CpD, MkV, MkH. -/
import Derived.Test.YtifcomgnmokimaaGreatDoorRt3
import Derived.Test.YtifcomgnmokimaaGreatDoorRt8
import Derived.Test.YtifcomgnmokimaaGreatDoorRt9
set_option linter.all false
set_option maxHeartbeats 2000000
set_option maxRecDepth 20000
namespace Go.Proofs.YtifcomgnmokimaaGreatDoor
open Go Go.RowKit
def mkL {α:Type} (mk:Int->α->α) (nx:Int->α->Int):Int->List α->List α
 | _,[]=>[]
 | k,x::r=>mk k x::mkL mk nx (nx k x) r
def kL {α:Type} (nx:Int->α->Int) (k:Int) (l:List α):Int:=l.foldl nx k
def ptL {α:Type} (mk:Int->α->α) (nx:Int->α->Int) (k:Int) (l:List α) (i:Nat):List α:=mkL mk nx k (l.take i)++l.drop i
section
variable {α:Type} {mk:Int->α->α} {nx:Int->α->Int}
theorem co:∀(k:Int) (l:List α),(mkL mk nx k l).length=l.length
 | _,[]=>rfl
 | k,x::r=>by simp[mkL,co (nx k x) r]
theorem vY:∀(k:Int) (a b:List α),mkL mk nx k (a++b)=mkL mk nx k a++mkL mk nx (kL nx k a) b
 | _,[],b=>rfl
 | k,x::r,b=>by
   show mk k x::mkL mk nx (nx k x) (r++b)=mk k x::(mkL mk nx (nx k x) r++mkL mk nx (kL nx (nx k x) r) b)
   rw[vY]
theorem db {k:Int} {l:List α} {i:Nat} (h:i<l.length):kL nx k (l.take (i+1))=nx (kL nx k (l.take i)) l[i]:=by
 rw[ek h]
 unfold kL
 rw[List.foldl_append];rfl
theorem dH {k:Int} {l:List α} {i:Nat} (h:i<=l.length):(ptL mk nx k l i).length=l.length:=by
 unfold ptL
 rw[Zh,co,Zu,YP];omega
theorem eH {k:Int} {l:List α} {i:Nat} (h:i<l.length):(ptL mk nx k l i)[i]?=some l[i]:=by
 unfold ptL
 rw[Zr (by rw[co,Zu];omega),co,Zu,show i - min i l.length=0 by omega,ZI h];rfl
theorem gI {k:Int} {l:List α} {i:Nat} (h:i<l.length):(ptL mk nx k l i).set i (mk (kL nx k (l.take i)) l[i])=ptL mk nx k l (i+1):=by
 unfold ptL
 rw[Yw _ _ (by rw[co,Zu];omega),co,Zu,show i - min i l.length=0 by omega,ZI h,Xd,ek h,vY,Zk];rfl
theorem fg (k:Int) (l:List α):ptL mk nx k l l.length=mkL mk nx k l:=by
 unfold ptL
 rw[Zv,List.drop_length,Zt]
theorem gn {k:Int} {l:List α} {i:Nat} (h:i<l.length):(mkL mk nx k l)[i]?=some (mk (kL nx k (l.take i)) l[i]):=by
 conv=>lhs;rw[<- Y5 i l,vY]
 rw[Zr (by rw[co,Zu];omega),co,Zu,show i - min i l.length=0 by omega,ZI h];rfl
theorem iL {c:Nat}:∀{l:List α} {k:Int},(∀x∈l,∀q,q<=nx q x/\nx q x<=q+c)->k<=kL nx k l/\kL nx k l<=k+c * l.length
 | [],k,_=>by show k<=k/\k<=k+_;simp
 | x::r,k,h=>by
   have h1:=h x Zi k
   have h2:=iL (l:=r) (k:=nx k x) (fun y hy=>h y (Zd _ hy))
   have e:kL nx k (x::r)=kL nx (nx k x) r:=rfl
   have e2:(c:Int) * (((x::r).length:Nat):Int)=c * (r.length:Nat)+c:=by rw[Zy,Int.natCast_add,Int.mul_add];simp
   rw[e,e2]
   omega
theorem bu {c:Nat} {l:List α} {k:Int} {i:Nat} {n:Nat} (hn:l.length<=n) (h:∀x∈l,∀q,q<=nx q x/\nx q x<=q+c) (hi:i<=l.length):k<=kL nx k (l.take i)/\kL nx k (l.take i)<=k+c * n:=by
 have h1:=iL (nx:=nx) (c:=c) (l:=l.take i) (k:=k) (fun x hx=>h x (ZS hx))
 have h2:(l.take i).length<=n:=by rw[Zu];omega
 have h3:(c:Int) * ((l.take i).length:Nat)<=c * n:=by exact_mod_cast Y9 c h2
 omega
end
theorem agr {α:Type} (ob:α->aV) {l:List α} {ps:List (Nat×Nat)} {i:Nat} {p:Nat×Nat} {x:α} (hx:l[i]?=some x) (hp:ps[i]?=some p):(nO ob l ps)[i]?=some (p.1,p.2,ob x):=by
 unfold nO
 rw[Y6,hx,hp]
theorem yI {α:Type} (mk:α->Nat×Nat->List TV) {l:List α} {ps:List (Nat×Nat)} {i:Nat} {p:Nat×Nat} {x:α} (hx:l[i]?=some x) (hp:ps[i]?=some p):(nR mk l ps)[i]?=some (mk x p):=by
 unfold nR
 rw[Y6,hx,hp]
theorem pR {α β γ:Type} (f:α->β->γ):∀{l:List α} {ps:List β} {i:Nat} {p:β} {x:α},ps[i]?=some p->List.zipWith f (l.set i x) ps=(List.zipWith f l ps).set i (f x p)
 | [],_,_,_,_,_=>by simp
 | _::_,[],_,_,_,h=>by simp at h
 | a::l,q::ps,0,p,x,h=>by simp at h;subst h;simp
 | a::l,q::ps,i+1,p,x,h=>by
   have:=pR f (l:=l) (ps:=ps) (i:=i) (p:=p) (x:=x) (by simpa using h)
   simp[this]
theorem aer {α:Type} (mk:α->Nat×Nat->List TV) {l:List α} {ps:List (Nat×Nat)} {i:Nat} {p:Nat×Nat} {x:α} (hp:ps[i]?=some p):nR mk (l.set i x) ps=(nR mk l ps).set i (mk x p):=pR mk hp
theorem tc {α:Type}:∀{l:List α} {i:Nat} {x:α},l[i]?=some x->l.Perm (x::l.eraseIdx i)
 | [],_,_,h=>by simp at h
 | a::l,0,x,h=>by simp at h;subst h;exact .refl _
 | a::l,i+1,x,h=>by
   have:=tc (l:=l) (i:=i) (x:=x) (by simpa using h)
   exact(this.cons a).trans (.swap x a _)
theorem lH {α:Type}:∀(l:List α) (i:Nat) (x:α),(l.set i x).eraseIdx i=l.eraseIdx i
 | [],_,_=>rfl
 | a::l,0,x=>rfl
 | a::l,i+1,x=>by simp[lH l i x]
theorem acD {α:Type} (ob:α->aV) {l:List α} {ps:List (Nat×Nat)} {i:Nat} {p:Nat×Nat} {x:α} (hx:l[i]?=some x) (hp:ps[i]?=some p):(nO ob l ps).Perm ((p.1,p.2,ob x)::(nO ob l ps).eraseIdx i):=tc (agr ob hx hp)
theorem agq {α:Type} (ob:α->aV) {l:List α} {ps:List (Nat×Nat)} {i:Nat} {p:Nat×Nat} {x:α} (hl:i<l.length) (hp:ps[i]?=some p):(nO ob (l.set i x) ps).Perm ((p.1,p.2,ob x)::(nO ob l ps).eraseIdx i):=by
 have h:=acD ob (l:=l.set i x) (ps:=ps) (i:=i) (p:=p) (x:=x) (by rw[ZN hl]) hp
 have e:(nO ob (l.set i x) ps).eraseIdx i=(nO ob l ps).eraseIdx i:=by
   unfold nO
   rw[pR _ hp,lH]
 rw[e] at h
 exact h
theorem yx {a z:Nat×Nat×aV} {N E:aG} (h:N.Perm (z::E)) (R:aG):bS (z::a::(E++R)) (a::(N++R)):=.perm (by
 have h1:(a::(N++R)).Perm (a::z::(E++R)):=((h.append_right R)).cons a
 exact(List.Perm.swap a z _).trans h1.symm)
theorem abL {a z:Nat×Nat×aV} {N E:aG} (h:N.Perm (z::E)) (R:aG):bS (a::(N++R)) (z::a::(E++R)):=.perm (by
 have h1:(a::(N++R)).Perm (a::z::(E++R)):=((h.append_right R)).cons a
 exact h1.trans (List.Perm.swap z a _))
theorem te (A B C:aG):bS (B++(A++C)) (A++(B++C)):=.perm (by
 rw[<- Zk,<- Zk]
 exact List.perm_append_comm.append_right C)
def cY (k:Int) (_:ByteArray):ByteArray:=eh k
def bm (k:Int) (_:ByteArray):Int:=k+1
theorem fD (l:List ByteArray):∀x∈l,∀q,q<=bm q x/\bm q x<=q+(1:Nat):=fun x _ q=>by unfold bm;omega
theorem adW (l:List ByteArray) (k:Nat) (s:ByteArray):(ca l).set k [TV.str s]=ca (l.set k s):=by simp[ca,Yz]
def eQ (k:Int) (_:am):am:=⟨k,k+1,k+1+1,eh (k+1+1+1)⟩
def bL (k:Int) (_:am):Int:=k+1+1+1+1
theorem jR (l:List am):∀x∈l,∀q,q<=bL q x/\bL q x<=q+(4:Nat):=fun x _ q=>by unfold bL;omega
def fo (k:Int) (_:aD):aD:=⟨k,decide ((k+1).tmod 3=0),eh (k+1+1),k+1+1+1⟩
def bW (k:Int) (_:aD):Int:=k+1+1+1+1
theorem j5 (l:List aD):∀x∈l,∀q,q<=bW q x/\bW q x<=q+(4:Nat):=fun x _ q=>by unfold bW;omega
def bs (k:Int) (x:aa):aa:=⟨eh (k),k+1,mkL cY bm (k+1+1) x.fields⟩
def aC (k:Int) (x:aa):Int:=kL bm (k+1+1) x.fields
theorem cM {l:List aa} (h:∀y∈l,aa.small 1048576 y):∀x∈l,∀q,q<=aC q x/\aC q x<=q+(1048578:Nat):=fun x hx q=>by
 have h1:=h x hx
 have h2:=h1.2.1
 have h3:=iL (nx:=bm) (l:=x.fields) (k:=q+1+1) (fD _)
 unfold aC
 omega
def ee (k:Int) (x:aB):aB:=⟨decide ((k).tmod 3=0),k+1,k+1+1,mkL eQ bL (k+1+1+1) x.instrs⟩
def ck (k:Int) (x:aB):Int:=kL bL (k+1+1+1) x.instrs
theorem jv {l:List aB} (h:∀y∈l,aB.small 1048576 y):∀x∈l,∀q,q<=ck q x/\ck q x<=q+(4194307:Nat):=fun x hx q=>by
 have h1:=h x hx
 have h2:=h1.1
 have h3:=iL (nx:=bL) (l:=x.instrs) (k:=q+1+1+1) (jR _)
 unfold ck
 omega
section
variable {G:World->Prop}
theorem nK (hst:ay G) (s b:Nat) (l:List ByteArray) (k:Int) (hn:l.length<=1099600000000) (hk:0<=k/\k<=1000000000000000):CtM Tryz.prog G 145 [.ms s b 0 l.length,.int .i64 k] [(s,b,.row 1 (ca (l)))] (fun _:Unit=>True) (fun _=>[(s,b,.row 1 (ca (mkL cY bm k l)))]) (fun _=>.int .i64 (kL bm k l)):=by
 refine au Tryz.func145 rfl Tryz.ntmps145 rfl rfl rfl fun w0 R gs objsR hG hR=>?_
 obtain rfl:=hR.inv1
 clear hR
 repeat' refine W_ ?_
 apply ap (X:=Nat) [0,1000000] (fun x=>[(5,.int .i64 (x:Int)),(1,.int .i64 (kL bm k (l.take x)))]) (fun x=>(s,b,.row 1 (ca (ptL cY bm k l x)))::R) (fun x=>x<=l.length) (fun x=>l.length - x) 0 (Ze _)
 exact kp_;exact nw_
 ·exact .refl _
 intro i hi
 try dsimp only
 have hq:=bu (k:=k) (i:=i) hn (fD l) hi
 by_cases hlt:i<l.length
 ·have hrow:(ca (ptL cY bm k l i))[i]?=some ((fun s:ByteArray=>[TV.str s]) l[i]):=by
    simp only[ca,Zj,eH hlt];rfl
  have hset:(ca (ptL cY bm k l i)).set i ((fun s:ByteArray=>[TV.str s]) (cY (kL bm k (l.take i)) l[i]))=ca (ptL cY bm k l (i+1)):=by
    rw[<- gI hlt,adW]
  have hks:=db (nx:=bm) (k:=k) hlt
  have hrl:(ca (ptL cY bm k l i)).length=l.length:=by simp[ca,dH hi]
  generalize ca (ptL cY bm k l i)=rows at hrow hset hrl |-
  generalize kL bm k (l.take i)=q at hq hset hks |-
  generalize l[i]=x at hrow hset hks
  replace hrow:rows[i]?=some [.str x]:=hrow
  have hks2:kL bm k (l.take (i+1))=q+1:=hks
  repeat' (first|refine W_ ?_|refine bD ?_|((with_reducible apply mZ);rfl;kernel_rfl;(repeat (first|exact bU.nil|((with_reducible apply bU.cons);rfl;exact .same _)));exact hG;exact hst;exact ci _ (by omega) (by omega)))
  refine ah (i+1) (by omega) (by omega) (.of _ (cW.envCons rfl (cW.envCons (ea rfl (by rw[hks2])) cW.envNil)) od_ ?_)
  rw[<- hset]
  (try simp only[YC])
  exact .refl _
 ·obtain rfl:i=l.length:=by omega
  rw[fg,Zv]
  repeat' refine W_ ?_
  exact aw x_ rfl () trivial rfl (.cons _ _ _ _ (.nil R)) pk_ (.tmp _ _ rfl) rfl
theorem jo (hst:ay G) (s b:Nat) (l:List ByteArray) (k:Int) (hn:l.length<=1048576) (hk:0<=k/\k<=1000000000000000):CtM Tryz.prog G 145 [.ms s b 0 l.length,.int .i64 k] [(s,b,.row 1 (ca (l)))] (fun _:Unit=>True) (fun _=>[(s,b,.row 1 (ca (mkL cY bm k l)))]) (fun _=>.int .i64 (kL bm k l)):=nK hst s b l k (by omega) hk
theorem qs (hst:ay G) (s b:Nat) (l:List am) (k:Int) (hn:l.length<=1048576) (hk:0<=k/\k<=1000000000000000):CtM Tryz.prog G 217 [.ms s b 0 l.length,.int .i64 k] [(s,b,.row 4 ((l).map (am.tw 0)))] (fun _:Unit=>True) (fun _=>[(s,b,.row 4 ((mkL eQ bL k l).map (am.tw 0)))]) (fun _=>.int .i64 (kL bL k l)):=by
 refine au Tryz.func217 rfl Tryz.ntmps217 rfl rfl rfl fun w0 R gs objsR hG hR=>?_
 obtain rfl:=hR.inv1
 clear hR
 repeat' refine W_ ?_
 apply ap (X:=Nat) [0,1000000] (fun x=>[(5,.int .i64 (x:Int)),(1,.int .i64 (kL bL k (l.take x)))]) (fun x=>(s,b,.row 4 ((ptL eQ bL k l x).map (am.tw 0)))::R) (fun x=>x<=l.length) (fun x=>l.length - x) 0 (Ze _)
 exact kp_;exact nw_
 ·exact .refl _
 intro i hi
 try dsimp only
 have hq:=bu (k:=k) (i:=i) hn (jR l) hi
 by_cases hlt:i<l.length
 ·have hrow:((ptL eQ bL k l i).map (am.tw 0))[i]?=some ((am.tw 0) l[i]):=by
    simp only[ca,Zj,eH hlt];rfl
  have hset:((ptL eQ bL k l i).map (am.tw 0)).set i ((am.tw 0) (eQ (kL bL k (l.take i)) l[i]))=(ptL eQ bL k l (i+1)).map (am.tw 0):=by
    rw[<- gI hlt,Yz]
  have hks:=db (nx:=bL) (k:=k) hlt
  have hrl:((ptL eQ bL k l i).map (am.tw 0)).length=l.length:=by simp[ca,dH hi]
  generalize (ptL eQ bL k l i).map (am.tw 0)=rows at hrow hset hrl |-
  generalize kL bL k (l.take i)=q at hq hset hks |-
  generalize l[i]=x at hrow hset hks
  replace hrow:rows[i]?=some [.int .i64 x.op,.int .i64 x.a,.int .i64 x.b,.str x.text]:=hrow
  have hr1:(rows.set i [.int .i64 q,.int .i64 x.a,.int .i64 x.b,.str x.text])[i]?=some [.int .i64 q,.int .i64 x.a,.int .i64 x.b,.str x.text]:=by rw[ZN (by omega)]
  have hks2:kL bL k (l.take (i+1))=q+1+1+1+1:=hks
  repeat' (first|refine W_ ?_|refine bD ?_|((with_reducible apply mZ);rfl;kernel_rfl;(repeat (first|exact bU.nil|((with_reducible apply bU.cons);rfl;exact .same _)));exact hG;exact hst;exact ci _ (by omega) (by omega)))
  refine ah (i+1) (by omega) (by omega) (.of _ (cW.envCons rfl (cW.envCons (ea rfl (by rw[hks2])) cW.envNil)) od_ ?_)
  rw[<- hset]
  (try simp only[YC])
  exact .refl _
 ·obtain rfl:i=l.length:=by omega
  rw[fg,Zv]
  repeat' refine W_ ?_
  exact aw x_ rfl () trivial rfl (.cons _ _ _ _ (.nil R)) pk_ (.tmp _ _ rfl) rfl
theorem qw (hst:ay G) (s b:Nat) (l:List aD) (k:Int) (hn:l.length<=1048576) (hk:0<=k/\k<=1000000000000000):CtM Tryz.prog G 143 [.ms s b 0 l.length,.int .i64 k] [(s,b,.row 4 ((l).map (aD.tw 0)))] (fun _:Unit=>True) (fun _=>[(s,b,.row 4 ((mkL fo bW k l).map (aD.tw 0)))]) (fun _=>.int .i64 (kL bW k l)):=by
 refine au Tryz.func143 rfl Tryz.ntmps143 rfl rfl rfl fun w0 R gs objsR hG hR=>?_
 obtain rfl:=hR.inv1
 clear hR
 repeat' refine W_ ?_
 apply ap (X:=Nat) [0,1000000] (fun x=>[(5,.int .i64 (x:Int)),(1,.int .i64 (kL bW k (l.take x)))]) (fun x=>(s,b,.row 4 ((ptL fo bW k l x).map (aD.tw 0)))::R) (fun x=>x<=l.length) (fun x=>l.length - x) 0 (Ze _)
 exact kp_;exact nw_
 ·exact .refl _
 intro i hi
 try dsimp only
 have hq:=bu (k:=k) (i:=i) hn (j5 l) hi
 by_cases hlt:i<l.length
 ·have hrow:((ptL fo bW k l i).map (aD.tw 0))[i]?=some ((aD.tw 0) l[i]):=by
    simp only[ca,Zj,eH hlt];rfl
  have hset:((ptL fo bW k l i).map (aD.tw 0)).set i ((aD.tw 0) (fo (kL bW k (l.take i)) l[i]))=(ptL fo bW k l (i+1)).map (aD.tw 0):=by
    rw[<- gI hlt,Yz]
  have hks:=db (nx:=bW) (k:=k) hlt
  have hrl:((ptL fo bW k l i).map (aD.tw 0)).length=l.length:=by simp[ca,dH hi]
  generalize (ptL fo bW k l i).map (aD.tw 0)=rows at hrow hset hrl |-
  generalize kL bW k (l.take i)=q at hq hset hks |-
  generalize l[i]=x at hrow hset hks
  replace hrow:rows[i]?=some [.int .i64 x.owner,.bool x.class_,.str x.selector,.int .i64 x.code]:=hrow
  have hr1:(rows.set i [.int .i64 q,.bool x.class_,.str x.selector,.int .i64 x.code])[i]?=some [.int .i64 q,.bool x.class_,.str x.selector,.int .i64 x.code]:=by rw[ZN (by omega)]
  have hks2:kL bW k (l.take (i+1))=q+1+1+1+1:=hks
  repeat' (first|refine W_ ?_|refine bD ?_|((with_reducible apply mZ);rfl;kernel_rfl;(repeat (first|exact bU.nil|((with_reducible apply bU.cons);rfl;exact .same _)));exact hG;exact hst;exact ci _ (by omega) (by omega)))
  refine ah (i+1) (by omega) (by omega) (.of _ (cW.envCons rfl (cW.envCons (ea rfl (by rw[hks2])) cW.envNil)) od_ ?_)
  rw[<- hset]
  (try simp only[YC])
  exact .refl _
 ·obtain rfl:i=l.length:=by omega
  rw[fg,Zv]
  repeat' refine W_ ?_
  exact aw x_ rfl () trivial rfl (.cons _ _ _ _ (.nil R)) pk_ (.tmp _ _ rfl) rfl
theorem hU (hst:ay G) (s b:Nat) (l:List aa) (ps:List (Nat×Nat)) (hps:ps.length=l.length) (k:Int) (hn:l.length<=1048576/\∀y∈l,aa.small 1048576 y) (hk:0<=k/\k<=100000000000000) :
   CtM Tryz.prog G 141 [.ms s b 0 l.length,.int .i64 k] ((s,b,.row 3 (nR fq l ps))::nO gw l ps) (fun _:Unit=>True) (fun _=>(s,b,.row 3 (nR fq (mkL bs aC k l) ps))::nO gw (mkL bs aC k l) ps) (fun _=>.int .i64 (kL aC k l)):=by
 refine au Tryz.func141 rfl Tryz.ntmps141 rfl rfl rfl fun w0 R gs objsR hG hR=>?_
 obtain rfl:=hR.eq
 clear hR
 obtain⟨hn,hsm⟩:=hn
 repeat' refine W_ ?_
 apply ap (X:=Nat) [0,1000000] (fun x=>[(5,.int .i64 (x:Int)),(1,.int .i64 (kL aC k (l.take x)))]) (fun x=>(s,b,.row 3 (nR fq (ptL bs aC k l x) ps))::(nO gw (ptL bs aC k l x) ps++R)) (fun x=>x<=l.length) (fun x=>l.length - x) 0 (Ze _)
 exact kp_;exact nw_
 ·exact .refl _
 intro i hi
 try dsimp only
 have hq:=bu (k:=k) (i:=i) hn (cM hsm) hi
 by_cases hlt:i<l.length
 ·obtain⟨p,hp⟩:∃p,ps[i]?=some p:=⟨_,Za (by omega)⟩
  have hpl:i<(ptL bs aC k l i).length:=by rw[dH hi];exact hlt
  have hrow:=yI fq (eH (mk:=bs) (nx:=aC) (k:=k) hlt) hp
  have hset:=aer fq (l:=ptL bs aC k l i) (x:=bs (kL aC k (l.take i)) l[i]) hp
  have hout:=acD gw (eH (mk:=bs) (nx:=aC) (k:=k) hlt) hp
  have hin:=agq gw (x:=bs (kL aC k (l.take i)) l[i]) hpl hp
  rw[gI hlt] at hset hin
  have hks:=db (nx:=aC) (k:=k) hlt
  have hrl:(nR fq (ptL bs aC k l i) ps).length=l.length:=by rw[ni _ (by rw[dH hi];exact hps),dH hi]
  have hb:=hsm _ (Zb hlt)
  generalize (nO gw (ptL bs aC k l i) ps).eraseIdx i=E at hout hin
  generalize nO gw (ptL bs aC k l i) ps=N0 at hout |-
  generalize nR fq (ptL bs aC k l i) ps=rows at hrow hset hrl |-
  generalize kL aC k (l.take i)=q at hq hset hks hin |-
  generalize l[i]=x at hrow hset hks hout hin hb
  replace hrow:rows[i]?=some [.str x.name,.int .i64 x.parent,.ms p.1 p.2 0 x.fields.length]:=hrow
  have hr1:(rows.set i [.str (eh (q)),.int .i64 x.parent,.ms p.1 p.2 0 x.fields.length])[i]?=some [.str (eh (q)),.int .i64 x.parent,.ms p.1 p.2 0 x.fields.length]:=by rw[ZN (by omega)]
  have hct:=jo hst p.1 p.2 x.fields (q+1+1) hb.2.1 (by omega)
  repeat' (first|refine W_ ?_|refine bD ?_|((with_reducible apply mZ);rfl;kernel_rfl;(repeat (first|exact bU.nil|((with_reducible apply bU.cons);rfl;exact .same _)));exact hG;exact hst;exact ci _ (by omega) (by omega)))
  refine ce (yx hout R) ?_
  repeat' (first|refine W_ ?_|((with_reducible apply aA);rfl;kernel_rfl;(repeat (first|exact az.nil|((with_reducible apply az.cons);rfl)));exact hG;exact hct;exact .cons _ _ _ _ (.nil _);intro y hy;refine bO ?_))
  refine ah (i+1) (by omega) (by omega) (.of _ (cW.envCons rfl (cW.envCons (ea rfl (by rw[hks];rfl)) cW.envNil)) od_ ?_)
  rw[hset]
  simp only[YC]
  have hcl:fq (bs q x) p=[.str (eh (q)),.int .i64 (q+1),.ms p.1 p.2 0 x.fields.length]:=by
    unfold fq bs
    dsimp only
    rw[co]
  rw[hcl]
  exact abL hin R
 ·obtain rfl:i=l.length:=by omega
  rw[fg,Zv]
  repeat' refine W_ ?_
  exact aw x_ rfl () trivial rfl (.cons _ _ _ _ (.app _ R)) (.refl _) (.tmp _ _ rfl) rfl
theorem sS (hst:ay G) (s b:Nat) (l:List aB) (ps:List (Nat×Nat)) (hps:ps.length=l.length) (k:Int) (hn:l.length<=1048576/\∀y∈l,aB.small 1048576 y) (hk:0<=k/\k<=100000000000000) :
   CtM Tryz.prog G 142 [.ms s b 0 l.length,.int .i64 k] ((s,b,.row 4 (nR cT l ps))::nO fu l ps) (fun _:Unit=>True) (fun _=>(s,b,.row 4 (nR cT (mkL ee ck k l) ps))::nO fu (mkL ee ck k l) ps) (fun _=>.int .i64 (kL ck k l)):=by
 refine au Tryz.func142 rfl Tryz.ntmps142 rfl rfl rfl fun w0 R gs objsR hG hR=>?_
 obtain rfl:=hR.eq
 clear hR
 obtain⟨hn,hsm⟩:=hn
 repeat' refine W_ ?_
 apply ap (X:=Nat) [0,1000000] (fun x=>[(5,.int .i64 (x:Int)),(1,.int .i64 (kL ck k (l.take x)))]) (fun x=>(s,b,.row 4 (nR cT (ptL ee ck k l x) ps))::(nO fu (ptL ee ck k l x) ps++R)) (fun x=>x<=l.length) (fun x=>l.length - x) 0 (Ze _)
 exact kp_;exact nw_
 ·exact .refl _
 intro i hi
 try dsimp only
 have hq:=bu (k:=k) (i:=i) hn (jv hsm) hi
 by_cases hlt:i<l.length
 ·obtain⟨p,hp⟩:∃p,ps[i]?=some p:=⟨_,Za (by omega)⟩
  have hpl:i<(ptL ee ck k l i).length:=by rw[dH hi];exact hlt
  have hrow:=yI cT (eH (mk:=ee) (nx:=ck) (k:=k) hlt) hp
  have hset:=aer cT (l:=ptL ee ck k l i) (x:=ee (kL ck k (l.take i)) l[i]) hp
  have hout:=acD fu (eH (mk:=ee) (nx:=ck) (k:=k) hlt) hp
  have hin:=agq fu (x:=ee (kL ck k (l.take i)) l[i]) hpl hp
  rw[gI hlt] at hset hin
  have hks:=db (nx:=ck) (k:=k) hlt
  have hrl:(nR cT (ptL ee ck k l i) ps).length=l.length:=by rw[ni _ (by rw[dH hi];exact hps),dH hi]
  have hb:=hsm _ (Zb hlt)
  generalize (nO fu (ptL ee ck k l i) ps).eraseIdx i=E at hout hin
  generalize nO fu (ptL ee ck k l i) ps=N0 at hout |-
  generalize nR cT (ptL ee ck k l i) ps=rows at hrow hset hrl |-
  generalize kL ck k (l.take i)=q at hq hset hks hin |-
  generalize l[i]=x at hrow hset hks hout hin hb
  replace hrow:rows[i]?=some [.bool x.block,.int .i64 x.params,.int .i64 x.slots,.ms p.1 p.2 0 x.instrs.length]:=hrow
  have hr1:(rows.set i [.bool (decide ((q).tmod 3=0)),.int .i64 x.params,.int .i64 x.slots,.ms p.1 p.2 0 x.instrs.length])[i]?=some [.bool (decide ((q).tmod 3=0)),.int .i64 x.params,.int .i64 x.slots,.ms p.1 p.2 0 x.instrs.length]:=by rw[ZN (by omega)]
  have hct:=qs hst p.1 p.2 x.instrs (q+1+1+1) hb.1 (by omega)
  repeat' (first|refine W_ ?_|refine bD ?_)
  refine ce (yx hout R) ?_
  repeat' (first|refine W_ ?_|((with_reducible apply aA);rfl;kernel_rfl;(repeat (first|exact az.nil|((with_reducible apply az.cons);rfl)));exact hG;exact hct;exact .cons _ _ _ _ (.nil _);intro y hy;refine bO ?_))
  refine ah (i+1) (by omega) (by omega) (.of _ (cW.envCons rfl (cW.envCons (ea rfl (by rw[hks];rfl)) cW.envNil)) od_ ?_)
  rw[hset]
  simp only[YC]
  have hcl:cT (ee q x) p=[.bool (decide ((q).tmod 3=0)),.int .i64 (q+1),.int .i64 (q+1+1),.ms p.1 p.2 0 x.instrs.length]:=by
    unfold cT ee
    dsimp only
    rw[co]
  rw[hcl]
  exact abL hin R
 ·obtain rfl:i=l.length:=by omega
  rw[fg,Zv]
  repeat' refine W_ ?_
  exact aw x_ rfl () trivial rfl (.cons _ _ _ _ (.app _ R)) (.refl _) (.tmp _ _ rfl) rfl
end
def rk (l:List aa) (y:(Nat×Nat)×List (Nat×Nat)):aG:=(y.1.1,y.1.2,.row 3 (nR fq l y.2))::nO gw l y.2
def agy (l:List aB) (y:(Nat×Nat)×List (Nat×Nat)):aG:=(y.1.1,y.1.2,.row 4 (nR cT l y.2))::nO fu l y.2
def aeN (l:List aD) (y:Nat×Nat):aG:=[(y.1,y.2,.row 4 (l.map (aD.tw 0)))]
def CbP:Type:=((Nat×Nat)×List (Nat×Nat))×((Nat×Nat)×List (Nat×Nat))×(Nat×Nat)
def cbO (x:aF) (y:CbP):aG:=rk x.classes y.1++(agy x.codes y.2.1++aeN x.entries y.2.2)
def cbC (x:aF) (y:CbP):List TV:=[.ms y.1.1.1 y.1.1.2 0 x.classes.length,.ms y.2.1.1.1 y.2.1.1.2 0 x.codes.length,.ms y.2.2.1 y.2.2.2 0 x.entries.length,.int .i64 x.main]
def cbI (x:aF) (y:CbP):Prop:=y.1.2.length=x.classes.length/\y.2.1.2.length=x.codes.length
theorem jx (A:aG) (x z:Nat×Nat×aV) (R:aG):bS (x::z::(A++R)) (A++(x::z::R)):=.perm (by
 have h1:(A++(x::z::R)).Perm (x::(A++(z::R))):=Z4
 have h2:(A++(z::R)).Perm (z::(A++R)):=Z4
 exact(h1.trans (h2.cons x)).symm)
theorem wD (A B C R:aG):((A++(B++C))++R).Perm (C++(B++(A++R))):=by
 have h1:(A++(B++C)).Perm (C++(B++A)):=by
   have:(A++(B++C)).Perm ((B++C)++A):=Xn
   refine this.trans ?_
   have h2:((B++C)++A).Perm ((C++B)++A):=(Xn).append_right A
   rw[Zk] at h2
   rw[Zk] at h2 |-
   exact h2
 have h3:=h1.append_right R
 simpa [Zk] using h3
theorem tn (A B C R:aG):bS (C++(A++(B++R))) (B++(A++(C++R))):=.perm (by
 have h1:(C++(A++B)).Perm (B++(A++C)):=by
   have h:=(wD C A B [])
   simpa using h
 simpa [Zk] using h1.append_right R)
theorem qG (A B C R:aG):bS (A++(B++(C++R))) (C++(A++(B++R))):=.perm (by
 have h1:(A++(B++C)).Perm (C++(A++B)):=by
   rw[<- Zk]
   exact Xn
 simpa [Zk] using h1.append_right R)
section
variable {G:World->Prop}
theorem qa (hst:ay G) (lo:Nat) (x:aF) (hb:x.small 1048576):CtM Tryz.prog G 24 [.agg (x.tw lo)] [] (cbI x) (cbO x) (fun y=>.agg (cbC x y)):=by
 refine au Tryz.func24 rfl Tryz.ntmps24 rfl rfl rfl fun w0 R gs objsR hG hR=>?_
 obtain rfl:=hR.inv0
 clear hR
 have c1:=jk hst lo x.classes hb.1
 have c2:=wm hst lo x.codes hb.2.1
 have c3:=vu hst lo x.entries hb.2.2
 unfold aF.tw
 repeat' (first|refine W_ ?_|refine aJ ?_|(refine ak ?_;intro ss bb)|refine ac ?_|((with_reducible apply aA);rfl;kernel_rfl;(repeat (first|exact az.nil|((with_reducible apply az.cons);rfl)));exact hG;(first|exact c1|exact c2|exact c3);exact .nil _;intro y hy;refine cL (jx _ _ _ _) ?_))
 rename_i yc hyc yd hyd
 refine aw (t1:=.agg [.ms yc.1.1 yc.1.2 0 x.classes.length,.ms yd.1.1 yd.1.2 0 x.codes.length,.ms y.1 y.2 0 x.entries.length,.int .i64 x.main]) x_ rfl (yc,yd,y) ⟨hyc,hyd⟩ rfl (.app _ R) (.drop (.drop (.perm (wD _ _ _ R)))) (.cell _ _ _ _ _ rfl mm_ (by kernel_rfl) (by kernel_rfl) (by kernel_rfl)) rfl
def dc (k:Int) (x:aF):aF:=⟨mkL bs aC k x.classes,mkL ee ck (kL aC k x.classes) x.codes,mkL fo bW (kL ck (kL aC k x.classes) x.codes) x.entries,x.main⟩
def bw (k:Int) (x:aF):Int:=kL bW (kL ck (kL aC k x.classes) x.codes) x.entries
theorem i6 {x:aF} (hb:x.small 1048576) (k:Int):k<=bw k x/\bw k x<=k+6000000000000:=by
 have h1:=bu (k:=k) (i:=x.classes.length) hb.1.1 (cM hb.1.2) (Zg _)
 have h2:=bu (k:=kL aC k x.classes) (i:=x.codes.length) hb.2.1.1 (jv hb.2.1.2) (Zg _)
 have h3:=bu (k:=kL ck (kL aC k x.classes) x.codes) (i:=x.entries.length) hb.2.2.1 (j5 x.entries) (Zg _)
 rw[Zv] at h1 h2 h3
 unfold bw
 omega
theorem nD (hst:ay G) (x:aF) (y:CbP) (hy:cbI x y) (hb:x.small 1048576) (k:Int) (hk:0<=k/\k<=50000000000000) :
   CtM Tryz.prog G 54 [.agg (cbC x y),.int .i64 k] (cbO x y) (fun _:Unit=>True) (fun _=>cbO (dc k x) y) (fun _=>.int .i64 (bw k x)):=by
 refine au Tryz.func54 rfl Tryz.ntmps54 rfl rfl rfl fun w0 R gs objsR hG hR=>?_
 obtain rfl:=hR.eq
 clear hR
 have h1:=bu (k:=k) (i:=x.classes.length) hb.1.1 (cM hb.1.2) (Zg _)
 have h2:=bu (k:=kL aC k x.classes) (i:=x.codes.length) hb.2.1.1 (jv hb.2.1.2) (Zg _)
 rw[Zv] at h1 h2
 have c1:=hU hst y.1.1.1 y.1.1.2 x.classes y.1.2 hy.1 k hb.1 (by omega)
 have c2:=sS hst y.2.1.1.1 y.2.1.1.2 x.codes y.2.1.2 hy.2 (kL aC k x.classes) hb.2.1 (by omega)
 have c3:=qw hst y.2.2.1 y.2.2.2 x.entries (kL ck (kL aC k x.classes) x.codes) hb.2.2.1 (by omega)
 have e0:cbO x y++R=rk x.classes y.1++(agy x.codes y.2.1++(aeN x.entries y.2.2++R)):=by unfold cbO;simp[Zk]
 have e1:cbO (dc k x) y++R=rk (dc k x).classes y.1++(agy (dc k x).codes y.2.1++(aeN (dc k x).entries y.2.2++R)):=by unfold cbO;simp[Zk]
 rw[e0]
 unfold cbC
 repeat' (first|refine W_ ?_|refine aJ ?_|((with_reducible apply aA);rfl;kernel_rfl;(repeat (first|exact az.nil|((with_reducible apply az.cons);rfl)));exact hG;exact c1;exact .app _ _;intro z hz;refine cL (te _ _ _) ?_)|((with_reducible apply aA);rfl;kernel_rfl;(repeat (first|exact az.nil|((with_reducible apply az.cons);rfl)));exact hG;exact c2;exact .app _ _;intro z hz;refine cL (tn _ _ _ _) ?_)|((with_reducible apply aA);rfl;kernel_rfl;(repeat (first|exact az.nil|((with_reducible apply az.cons);rfl)));exact hG;exact c3;exact .app _ _;intro z hz))
 refine aw x_ rfl () trivial rfl (.app _ R) ?_ (.tmp _ _ rfl) rfl
 rw[e1]
 exact qG _ _ _ R
end
theorem rJ {α:Type} (mk:α->Nat×Nat->List TV) {l:List α} {ps:List (Nat×Nat)} {i:Nat} (h:i<l.length) (hp:ps.length=i) (p:Nat×Nat):nR mk (l.take i) ps++[mk l[i] p]=nR mk (l.take (i+1)) (ps++[p]):=by
 unfold nR
 rw[ek h,Yv (by rw[Zu];omega)];rfl
section
variable {G:World->Prop}
theorem jC (hst:ay G) (lo:Nat) (l:List aa) (hb:l.length<=1048576/\∀y∈l,aa.small 1048576 y):CtM Tryz.prog G 210 [.sl lo 3 (l.map (aa.tw lo))] [] (fun y:(Nat×Nat)×List (Nat×Nat)=>y.2.length=l.length) (fun y=>(y.1.1,y.1.2,.row 3 (nR fq l y.2))::nO gw l y.2) (fun y=>.ms y.1.1 y.1.2 0 l.length):=by
 refine au Tryz.func210 rfl Tryz.ntmps210 rfl rfl rfl fun w0 R gs objsR hG hR=>?_
 obtain rfl:=hR.inv0
 clear hR
 have hlen:=aa.len lo l
 have hl1:=hb.1
 repeat' (first|refine W_ ?_|(refine jz ?_;intro ss bb))
 generalize ss=so;generalize bb=bo
 apply ap (X:=Nat×Nat×List (Nat×Nat)) [7,8,1000000] (fun x=>[(9,.int .i64 (x.1:Int)),(3,.ms so x.2.1 0 x.1)]) (fun x=>(so,x.2.1,.row 3 (nR fq (l.take x.1) x.2.2))::(nO gw (l.take x.1) x.2.2++R)) (fun x=>x.1<=l.length/\x.2.2.length=x.1) (fun x=>l.length - x.1) (0,bo,[]) ⟨Ze _,rfl⟩
 exact kp_;exact nw_
 ·exact .refl _
 rintro ⟨i,bo,ps⟩ ⟨hi,hps⟩
 dsimp only at hi hps |-
 by_cases hlt:i<l.length
 ·have hrs:=fun p=>rJ fq hlt hps p
  have hos:=fun p=>lX gw hlt hps p
  have hra:(l.map (aa.tw lo))[i]?=some (l[i].tw lo):=aK hlt
  have hrl:(nR fq (l.take i) ps).length=i:=by rw[ni _ (by rw[Zu];omega),Zu];omega
  have hbi:=hb.2 _ (Zb hlt)
  generalize l[i]=x at hrs hos hra hbi
  rw[show x.tw lo=[.str x.name,.int .i64 x.parent,.sl lo 1 (ca x.fields)] from rfl] at hra
  have hsl:=cg x.fields
  have hf:=hbi.2.1
  generalize nO gw (l.take i) ps=T at hos |-
  repeat' (first|refine W_ ?_|(refine ak ?_;intro ss bb)|refine ac ?_|((with_reducible apply jn (n:=0));rfl;rfl;kernel_rfl;kernel_rfl;rfl;kernel_rfl;rfl;rfl;rfl;rfl;intro ss bb)|refine ef ?_|((with_reducible apply dN);rfl;rfl;rfl;kernel_rfl;(repeat (first|with_reducible exact mh|with_reducible refine mt ?_));(first|with_reducible assumption|exact aI _|exact aj _|exact aH _|exact Zf _|assumption|rfl);omega;(intro bq;(repeat (first|with_reducible exact Upd.head _|with_reducible apply Upd.tail)));intro bb)|((with_reducible apply eD);rfl;rfl;rfl;kernel_rfl;(repeat (first|with_reducible exact mh|with_reducible refine mt ?_));exact hrl;(first|(show List.length _=1;rfl)|(show List.length _=2;rfl)|(show List.length _=0;rfl)|(show List.length _=3;rfl)|(first|with_reducible assumption|exact aI _|exact aj _|exact aH _|exact Zf _|assumption|rfl));omega;exact hrs (_,_);(intro bq;(repeat (first|with_reducible exact Upd.head _|with_reducible apply Upd.tail)));intro bb))
  rename_i s5 b5 _ bx
  generalize ss=sx
  refine lY (objs':=(sx,bx,.row 1 (ca x.fields))::(so,bb,.row 3 (nR fq (l.take (i+1)) (ps++[(sx,bx)])))::(T++R)) pk_ ?_
  refine ah (i+1,bb,ps++[(sx,bx)]) ⟨by dsimp only;omega,by dsimp only;simp[hps]⟩ (by dsimp only;omega) (.of _ nw_ od_ ?_)
  dsimp only
  rw[hos (sx,bx)]
  exact lJ _ _ T R
 ·obtain rfl:i=l.length:=by omega
  rw[Zc (Zg _)]
  repeat' refine W_ ?_
  exact aw x_ rfl ((so,bo),ps) hps rfl (.cons _ _ _ _ (.app _ R)) (.refl _) (.tmp _ _ rfl) rfl
end
theorem rM {α β γ:Type} {f:α->β->γ} {l:List α} {ps:List β} {z:γ} (h:z∈List.zipWith f l ps):∃x p,f x p=z/\∀{δ:Type} (g:α->β->δ),g x p∈List.zipWith g l ps:=by
 induction l generalizing ps with
 | nil=>simp at h
 | cons a l ih =>
   cases ps with
   | nil=>simp at h
   | cons q ps =>
     rw[YO,ZX] at h
     rcases h with rfl|h
     ·exact⟨a,q,rfl,fun g=>by rw[YO];exact Zi⟩
     ·obtain⟨x,p,h1,h2⟩:=ih h
      exact⟨x,p,h1,fun g=>by rw[YO];exact Zd _ (h2 g)⟩
theorem iP {α:Type} {mk:α->Nat×Nat->List TV} {ob:α->aV} {m s b n:Nat} (hmk:∀x p objs,(p.1,p.2,ob x)∈objs->∀t∈mk x p,dY objs t) (hob:∀x objs,cE objs (ob x)) (l:List α) (ps:List (Nat×Nat)) :
   (∀s' b' o,(s',b',o)∈(s,b,aV.row m (nR mk l ps))::nO ob l ps->cE ((s,b,aV.row m (nR mk l ps))::nO ob l ps) o)/\dY ((s,b,aV.row m (nR mk l ps))::nO ob l ps) (.ms s b 0 n):=by
 refine⟨fun s' b' o h=>?_,.ms _ _ _ _ _ _ Zi⟩
 rcases List.mem_cons.1 h with h|h
 ·simp only[Zp] at h
  obtain⟨_,_,rfl⟩:=h
  intro t ht
  obtain⟨r,hr,htr⟩:=List.mem_flatten.1 ht
  obtain⟨x,p,rfl,hg⟩:=rM hr
  exact hmk x p _ (Zd _ (hg fun x p=>(p.1,p.2,ob x))) t htr
 ·obtain⟨x,p,he,_⟩:=rM h
  simp only[Zp] at he
  obtain⟨_,_,rfl⟩:=he
  exact hob x _
theorem iK (x:aa) (p:Nat×Nat) (objs:aG) (h:(p.1,p.2,gw x)∈objs):∀t∈fq x p,dY objs t:=fun t ht=>by
 simp only[fq,ZX,ZP,or_false] at ht
 rcases ht with rfl|rfl|rfl
 ·exact .flat _ rfl
 ·exact .flat _ rfl
 ·exact .ms _ _ _ _ _ _ h
theorem iB (x:aa) (objs:aG):cE objs (gw x):=fO (tR _)
theorem zg (a b z:Nat×Nat×aV) (T R:aG):bS (a::b::((T++[z])++R)) (z::a::b::(T++R)):=.perm (by
 have h:((T++[z])++R).Perm (z::(T++R)):=by
   rw[Zk]
   exact Z4
 exact((h.cons b).cons a).trans (((List.Perm.swap z b _).cons a).trans (List.Perm.swap z a _)))
theorem afd (a e z2 z3:Nat×Nat×aV) (C A R:aG):bS (z2::z3::a::(A++(e::(C++R)))) (z3::a::(A++(e::(C++(z2::R))))):=.perm (by
 have h:((z3::a::A)++(e::C)++z2::R).Perm (z2::((z3::a::A)++(e::C)++R)):=Z4
 simpa using h.symm)
theorem wn (a e:Nat×Nat×aV) (C A R:aG):((C++((a::A)++[e]))++R).Perm (a::(A++(e::(C++R)))):=by
 rw[Zk,Zk]
 refine(Yg C (a::A) ([e]++R)).trans ?_
 exact ZW (a::A) (Yg C [e] R)
section
variable {G:World->Prop}
theorem nF (hst:ay G) (lo:Nat) (x:aF) (hb:x.small 1048576):CtM Tryz.prog G 134 [.agg (x.tw lo)] [] (cbI x) (cbO x) (fun y=>.agg (cbC x y)):=by
 refine au Tryz.func134 rfl Tryz.ntmps134 rfl rfl rfl fun w0 R gs objsR hG hR=>?_
 obtain rfl:=hR.inv0
 clear hR
 have c1:=jC hst lo x.classes hb.1
 have n1:=fun(y:(Nat×Nat)×List (Nat×Nat)) (_:y.2.length=x.classes.length)=>iP (m:=3) (s:=y.1.1) (b:=y.1.2) (n:=x.classes.length) iK iB x.classes y.2
 have hel:=aD.len lo x.entries
 have he1:=hb.2.2.1
 unfold aF.tw
 repeat' (first|refine W_ ?_|refine aJ ?_|(refine ak ?_;intro ss bb)|((with_reducible apply dX (id:=1) 11);kernel_rfl;kernel_rfl;kernel_rfl;rfl;(repeat (first|exact Cut.zero _|apply Cut.succ)))|((with_reducible apply m_q);exact ym_;rfl;exact ez)|((with_reducible apply cA);rfl;(intro p;try dsimp only);(repeat (first|exact TB.nil _|((with_reducible apply TB.cons);rfl;rfl;(first|exact .nil _|exact .put _ _ _ _ _ (.nil _)|exact .skip _ _ _ _ _ (.put _ _ _ _ _ (.nil _))|exact .skip _ _ _ _ _ (.skip _ _ _ _ _ (.put _ _ _ _ _ (.nil _)))|(repeat (first|exact .nil _|apply aW.put|apply aW.skip)));kernel_rfl)));rfl;kernel_rfl;kernel_rfl;exact ez)|((with_reducible apply gm);rfl;rfl;kernel_rfl)|((with_reducible apply uw);(intro p;rfl);rfl;kernel_rfl;kernel_rfl;rfl;kernel_rfl;rfl;rfl;rfl;rfl)|((with_reducible apply nk);(intro p;rfl);(intro p;rfl);rfl;kernel_rfl;(intro p;rfl);(first|with_reducible assumption|exact aI _|exact aj _|exact aH _|exact Zf _|assumption|rfl);omega;exact⟨by decide,ah_⟩;rfl;(focus (simp;done)))|((with_reducible apply gy hG hst c1);rfl;kernel_rfl;(intro p;(repeat (first|exact bU.nil|((with_reducible apply bU.cons);rfl;exact .same _))));exact n1)|(with_reducible refine DM.nil _ _ _ ?_))
 generalize ss=s2;generalize bb=b2
 intro p hp
 simp only[Yr] at hp
 obtain⟨_,_,_,hI,_⟩:=hp
 refine bV (objs':=((p 10).a,(p 10).b,.box [.nils,.nils,.nils,.int .i64 0])::((p 3).a,(p 6).b,.row 4 (x.entries.map (aD.tw lo)))::(rk x.classes (Enc.dec (p 2))++((s2,b2,.box [.nils,.nils,.nils,.int .i64 0])::R))) (by rw[show et _=[_,_,_] from rfl];simp only[ZC,ZK,Zt,Zk,ZF,Zx];rfl) ?_
 dsimp only [Nat.reduceAdd] at hI |-
 generalize (Enc.dec (p 2):(Nat×Nat)×List (Nat×Nat))=yc at hI |-
 generalize Yu.a (p 10)=s3
 generalize Yu.b (p 10)=b3
 generalize Yu.a (p 3)=se
 generalize Yu.b (p 6)=be
 have hcl:=aB.len lo x.codes
 have hc1:=hb.2.1.1
 have hsm:=hb.2.1.2
 repeat' (first|refine W_ ?_|refine ac ?_)
 refine pW 1 4 (by decide) rfl fun sc=>?_
 obtain⟨RR,hRR⟩:∃RR:aG,RR=((se,be,.row 4 (x.entries.map (aD.tw 0)))::(rk x.classes yc++((s2,b2,aV.box [.nils,.nils,.nils,.int .i64 0])::R))):=⟨_,rfl⟩
 refine aR (objs':=(s3,b3,.box [.ms yc.1.1 yc.1.2 0 x.classes.length,.ms sc 0 0 0,.ms se be 0 x.entries.length,.int .i64 x.main])::(sc,0,.row 4 [])::RR) (by rw[hRR];exact .refl _) ?_
 apply ap (X:=Nat×Nat×List (Nat×Nat)) [2,3,17,18,1000000] (fun y=>[(19,.int .i64 (y.1:Int))])
   (fun y=>(s3,b3,.box [.ms yc.1.1 yc.1.2 0 x.classes.length,.ms sc y.2.1 0 y.1,.ms se be 0 x.entries.length,.int .i64 x.main])::(sc,y.2.1,.row 4 (nR cT (x.codes.take y.1) y.2.2))::(nO fu (x.codes.take y.1) y.2.2++RR))
   (fun y=>y.1<=x.codes.length/\y.2.2.length=y.1) (fun y=>x.codes.length - y.1) (0,0,[]) ⟨Ze _,rfl⟩
 exact kp_;exact nw_
 ·exact .refl _
 rintro ⟨i,bc,ps⟩ ⟨hi,hps⟩
 dsimp only at hi hps |-
 by_cases hlt:i<x.codes.length
 ·have hrs:=fun p=>rJ cT hlt hps p
  have hos:=fun p=>lX fu hlt hps p
  have hra:(x.codes.map (aB.tw lo))[i]?=some (x.codes[i].tw lo):=aK hlt
  have hrl:(nR cT (x.codes.take i) ps).length=i:=by rw[ni _ (by rw[Zu];omega),Zu];omega
  have hbi:=hsm _ (Zb hlt)
  generalize x.codes[i]=c at hrs hos hra hbi
  have hil:c.instrs.length<=1048576:=hbi.1
  rw[show c.tw lo=[.bool c.block,.int .i64 c.params,.int .i64 c.slots,.sl lo 4 (c.instrs.map (am.tw lo))] from rfl] at hra
  generalize nO fu (x.codes.take i) ps=T at hos |-
  repeat' (first|refine W_ ?_|(refine ak ?_;intro ss bb)|refine ac ?_|((with_reducible apply jn (n:=0));rfl;rfl;kernel_rfl;kernel_rfl;rfl;kernel_rfl;rfl;rfl;rfl;rfl;intro ss bb)|refine ef ?_|((with_reducible apply dN);rfl;rfl;rfl;kernel_rfl;(repeat (first|with_reducible exact mh|with_reducible refine mt ?_));(first|with_reducible assumption|exact aI _|exact aj _|exact aH _|exact Zf _|assumption|rfl);omega;(intro bq;(repeat (first|with_reducible exact Upd.head _|with_reducible apply Upd.tail)));intro bb)|((with_reducible apply eD);rfl;rfl;rfl;kernel_rfl;(repeat (first|with_reducible exact mh|with_reducible refine mt ?_));exact hrl;(first|(show List.length _=1;rfl)|(show List.length _=2;rfl)|(show List.length _=0;rfl)|(show List.length _=3;rfl)|(first|with_reducible assumption|exact aI _|exact aj _|exact aH _|exact Zf _|assumption|rfl));omega;exact hrs (_,_);(intro bq;(repeat (first|with_reducible exact Upd.head _|with_reducible apply Upd.tail)));intro bb))
  rename_i s5 b5 _ bx
  generalize ss=sx
  refine lY (objs':=(sx,bx,.row 4 (c.instrs.map (am.tw 0)))::(s3,b3,.box [.ms yc.1.1 yc.1.2 0 x.classes.length,.ms sc bb 0 (i+1),.ms se be 0 x.entries.length,.int .i64 x.main])::(sc,bb,.row 4 (nR cT (x.codes.take (i+1)) (ps++[(sx,bx)])))::(T++RR)) pk_ ?_
  refine ah (i+1,bb,ps++[(sx,bx)]) ⟨by dsimp only;omega,by dsimp only;simp[hps]⟩ (by dsimp only;omega) (.of _ nw_ od_ ?_)
  dsimp only
  rw[hos (sx,bx)]
  exact zg _ _ _ T RR
 ·obtain rfl:i=x.codes.length:=by omega
  rw[Zc (Zg _),hRR]
  refine aR (afd _ _ _ _ _ _ _) ?_
  repeat' (first|refine W_ ?_|refine ac ?_)
  exact aw (t1:=.agg [.ms yc.1.1 yc.1.2 0 x.classes.length,.ms sc bc 0 x.codes.length,.ms se be 0 x.entries.length,.int .i64 x.main]) x_ rfl (yc,((sc,bc),ps),(se,be)) ⟨hI,hps⟩ rfl (.app _ R) (.drop (.drop (.perm (wn _ _ _ _ R)))) (.cell _ _ _ _ _ rfl mm_ (by kernel_rfl) (by kernel_rfl) (by kernel_rfl)) rfl
end
section
variable {G:World->Prop}
theorem hH (hst:ay G) (lo:Nat) (l:List aa) (hb:l.length<=1048576/\∀y∈l,aa.small 1048576 y):CtM Tryz.prog G 202 [.sl lo 3 (l.map (aa.tw lo))] [] (fun y:(Nat×Nat)×List (Nat×Nat)=>y.2.length=l.length) (fun y=>(y.1.1,y.1.2,.row 3 (nR fq l y.2))::nO gw l y.2) (fun y=>.ms y.1.1 y.1.2 0 l.length):=by
 refine au Tryz.func202 rfl Tryz.ntmps202 rfl rfl rfl fun w0 R gs objsR hG hR=>?_
 obtain rfl:=hR.inv0
 clear hR
 have hlen:=aa.len lo l
 have hl1:=hb.1
 repeat' (first|refine W_ ?_|(refine jz ?_;intro ss bb))
 generalize ss=so;generalize bb=bo
 apply ap (X:=Nat×Nat×List (Nat×Nat)) [0,1000000] (fun x=>[(4,.int .i64 (x.1:Int)),(3,.ms so x.2.1 0 x.1)]) (fun x=>(so,x.2.1,.row 3 (nR fq (l.take x.1) x.2.2))::(nO gw (l.take x.1) x.2.2++R)) (fun x=>x.1<=l.length/\x.2.2.length=x.1) (fun x=>l.length - x.1) (0,bo,[]) ⟨Ze _,rfl⟩
 exact kp_;exact nw_
 ·exact .refl _
 rintro ⟨i,bo,ps⟩ ⟨hi,hps⟩
 dsimp only at hi hps |-
 by_cases hlt:i<l.length
 ·have hrs:=fun p=>rJ fq hlt hps p
  have hos:=fun p=>lX gw hlt hps p
  have hra:(l.map (aa.tw lo))[i]?=some (l[i].tw lo):=aK hlt
  have hrl:(nR fq (l.take i) ps).length=i:=by rw[ni _ (by rw[Zu];omega),Zu];omega
  have hbi:=hb.2 _ (Zb hlt)
  generalize l[i]=x at hrs hos hra hbi
  rw[show x.tw lo=[.str x.name,.int .i64 x.parent,.sl lo 1 (ca x.fields)] from rfl] at hra
  have hsl:=cg x.fields
  have hf:=hbi.2.1
  generalize nO gw (l.take i) ps=T at hos |-
  repeat' (first|refine W_ ?_|((with_reducible apply dX (id:=5) 20);kernel_rfl;kernel_rfl;kernel_rfl;rfl;(repeat (first|exact Cut.zero _|apply Cut.succ)))|((with_reducible apply m_q);exact ym_;rfl;exact ez)|((with_reducible apply cA);rfl;(intro p;try dsimp only);(repeat (first|exact TB.nil _|((with_reducible apply TB.cons);rfl;rfl;(first|exact .nil _|exact .put _ _ _ _ _ (.nil _)|exact .skip _ _ _ _ _ (.put _ _ _ _ _ (.nil _))|exact .skip _ _ _ _ _ (.skip _ _ _ _ _ (.put _ _ _ _ _ (.nil _)))|(repeat (first|exact .nil _|apply aW.put|apply aW.skip)));kernel_rfl)));rfl;kernel_rfl;kernel_rfl;exact ez)|((with_reducible apply nk);(intro p;rfl);(intro p;rfl);rfl;kernel_rfl;(intro p;rfl);(first|with_reducible assumption|exact aI _|exact aj _|exact aH _|exact Zf _|assumption|rfl);omega;exact⟨by decide,ah_⟩;rfl;(focus (simp;done)))|((with_reducible apply uw (n:=0));(intro p;rfl);rfl;kernel_rfl;kernel_rfl;rfl;kernel_rfl;rfl;rfl;rfl;rfl)|((with_reducible apply jh);(intro p;rfl);rfl;kernel_rfl;kernel_rfl;rfl;kernel_rfl;rfl;(intro p;rfl);rfl;(intro p;rfl);exact ez)|(with_reducible refine DM.nil _ _ _ ?_))
  intro p hp
  refine bV (objs':=((p 11).a,(p 17).b,.row 1 (ca x.fields))::(so,bo,.row 3 (nR fq (l.take i) ps))::(T++R)) (by rw[show et _=[_] from rfl];simp only[ZC,ZK,Zt,Zk,ZF,Zx];(try rfl)) ?_
  dsimp only [Nat.reduceAdd]
  generalize Yu.a (p 11)=sx
  generalize Yu.b (p 17)=bx
  repeat' (first|refine W_ ?_|((with_reducible apply eD);rfl;rfl;rfl;kernel_rfl;(repeat (first|with_reducible exact mh|with_reducible refine mt ?_));exact hrl;(first|(show List.length _=1;rfl)|(show List.length _=2;rfl)|(show List.length _=0;rfl)|(show List.length _=3;rfl)|(first|with_reducible assumption|exact aI _|exact aj _|exact aH _|exact Zf _|assumption|rfl));omega;exact hrs (_,_);(intro bq;(repeat (first|with_reducible exact Upd.head _|with_reducible apply Upd.tail)));intro bb))
  refine ah (i+1,bb,ps++[(sx,bx)]) ⟨by dsimp only;omega,by dsimp only;simp[hps]⟩ (by dsimp only;omega) (.of _ nw_ od_ ?_)
  dsimp only
  rw[hos (sx,bx)]
  exact lJ _ _ T R
 ·obtain rfl:i=l.length:=by omega
  rw[Zc (Zg _)]
  repeat' refine W_ ?_
  exact aw x_ rfl ((so,bo),ps) hps rfl (.cons _ _ _ _ (.app _ R)) (.refl _) (.tmp _ _ rfl) rfl
theorem xD (hst:ay G) (lo:Nat) (x:aB) (hb:x.small 1048576):CtM Tryz.prog G 203 [.agg [.bool x.block,.int .i64 x.params,.int .i64 x.slots,.sl lo 4 (x.instrs.map (am.tw lo))]] [] (fun _:Nat×Nat=>True) (fun y=>[(y.1,y.2,fu x)]) (fun y=>.agg (cT x y)):=by
 refine au Tryz.func203 rfl Tryz.ntmps203 rfl rfl rfl fun w0 R gs objsR hG hR=>?_
 obtain rfl:=hR.inv0
 clear hR
 have hil:x.instrs.length<=1048576:=hb.1
 repeat' (first|refine W_ ?_|refine aJ ?_|(refine ak ?_;intro ss bb)|((with_reducible apply dX (id:=1) 11);kernel_rfl;kernel_rfl;kernel_rfl;rfl;(repeat (first|exact Cut.zero _|apply Cut.succ)))|((with_reducible apply m_q);exact ym_;rfl;exact ez)|((with_reducible apply cA);rfl;(intro p;try dsimp only);(repeat (first|exact TB.nil _|((with_reducible apply TB.cons);rfl;rfl;(first|exact .nil _|exact .put _ _ _ _ _ (.nil _)|exact .skip _ _ _ _ _ (.put _ _ _ _ _ (.nil _))|exact .skip _ _ _ _ _ (.skip _ _ _ _ _ (.put _ _ _ _ _ (.nil _)))|(repeat (first|exact .nil _|apply aW.put|apply aW.skip)));kernel_rfl)));rfl;kernel_rfl;kernel_rfl;exact ez)|((with_reducible apply uw);(intro p;rfl);rfl;kernel_rfl;kernel_rfl;rfl;kernel_rfl;rfl;rfl;rfl;rfl)|((with_reducible apply nk);(intro p;rfl);(intro p;rfl);rfl;kernel_rfl;(intro p;rfl);(first|with_reducible assumption|exact aI _|exact aj _|exact aH _|exact Zf _|assumption|rfl);omega;exact⟨by decide,ah_⟩;rfl;(focus (simp;done)))|(with_reducible refine DM.nil _ _ _ ?_))
 generalize ss=s2;generalize bb=b2
 intro p hp
 refine bV (objs':=((p 6).a,(p 9).b,.row 4 (x.instrs.map (am.tw 0)))::(s2,b2,.box [.bool false,.int .i64 0,.int .i64 0,.nils])::R) (by rw[show et _=[_] from rfl];simp only[ZC,ZK,Zt,Zk,ZF,Zx];(try rfl)) ?_
 dsimp only [Nat.reduceAdd]
 generalize Yu.a (p 6)=sx
 generalize Yu.b (p 9)=bx
 repeat' (first|refine W_ ?_|refine ac ?_)
 exact aw (t1:=.agg [.bool x.block,.int .i64 x.params,.int .i64 x.slots,.ms sx bx 0 x.instrs.length]) x_ rfl (sx,bx) trivial rfl (.cons _ _ _ _ (.nil R)) pk_ (.cell _ _ _ _ _ rfl mm_ (by kernel_rfl) (by kernel_rfl) (by kernel_rfl)) rfl
end
theorem ab8 (x:aB) (y:Nat×Nat):(∀s b o,(s,b,o)∈[(y.1,y.2,fu x)]->cE [(y.1,y.2,fu x)] o)/\dY [(y.1,y.2,fu x)] (.agg (cT x y)):=by
 refine⟨fun s b o h=>?_,.agg _ fun t ht=>?_⟩
 ·simp only[ZM,Zp] at h
  obtain⟨_,_,rfl⟩:=h
  refine fO fun t ht=>?_
  obtain⟨r,hr,htr⟩:=List.mem_flatten.1 ht
  obtain⟨i,_,rfl⟩:=List.mem_map.1 hr
  simp only[am.tw,ZX,ZP,or_false] at htr
  rcases htr with rfl|rfl|rfl|rfl <;> rfl
 ·simp only[cT,ZX,ZP,or_false] at ht
  rcases ht with rfl|rfl|rfl|rfl
  ·exact .flat _ rfl
  ·exact .flat _ rfl
  ·exact .flat _ rfl
  ·exact .ms _ _ _ _ _ _ Zi
theorem aaa (a b z:Nat×Nat×aV) (T R:aG):bS (a::b::((T++[z])++R)) (a::z::b::(T++R)):=.perm (by
 have h:((T++[z])++R).Perm (z::(T++R)):=by
   rw[Zk]
   exact Z4
 exact(((h.cons b).trans (List.Perm.swap z b _)).cons a))
theorem adK (a e z2 z3:Nat×Nat×aV) (C A R:aG):bS (z2::z3::a::(A++(e::(C++R)))) (a::z3::(A++(e::(C++(z2::R))))):=.perm (by
 have h:((z3::a::A)++(e::C)++z2::R).Perm (z2::((z3::a::A)++(e::C)++R)):=Z4
 exact .trans (by simpa using h.symm) (List.Perm.swap a z3 _))
section
variable {G:World->Prop}
theorem wG (hst:ay G) (f lo:Nat) (x:aF) (hb:x.small 1048576):CtM Tryz.prog G 126 [.cp f (x.tw lo)] [] (cbI x) (cbO x) (fun y=>.agg (cbC x y)):=by
 refine au Tryz.func126 rfl Tryz.ntmps126 rfl rfl rfl fun w0 R gs objsR hG hR=>?_
 obtain rfl:=hR.inv0
 clear hR
 have c1:=hH hst lo x.classes hb.1
 have n1:=fun(y:(Nat×Nat)×List (Nat×Nat)) (_:y.2.length=x.classes.length)=>iP (m:=3) (s:=y.1.1) (b:=y.1.2) (n:=x.classes.length) iK iB x.classes y.2
 have hel:=aD.len lo x.entries
 have he1:=hb.2.2.1
 unfold aF.tw
 repeat' (first|refine W_ ?_|(refine ak ?_;intro ss bb)|((with_reducible apply dX (id:=1) 17);kernel_rfl;kernel_rfl;kernel_rfl;rfl;(repeat (first|exact Cut.zero _|apply Cut.succ)))|((with_reducible apply m_q);exact ym_;rfl;exact ez)|((with_reducible apply cA);rfl;(intro p;try dsimp only);(repeat (first|exact TB.nil _|((with_reducible apply TB.cons);rfl;rfl;(first|exact .nil _|exact .put _ _ _ _ _ (.nil _)|exact .skip _ _ _ _ _ (.put _ _ _ _ _ (.nil _))|exact .skip _ _ _ _ _ (.skip _ _ _ _ _ (.put _ _ _ _ _ (.nil _)))|(repeat (first|exact .nil _|apply aW.put|apply aW.skip)));kernel_rfl)));rfl;kernel_rfl;kernel_rfl;exact ez)|((with_reducible apply gm);rfl;rfl;kernel_rfl)|((with_reducible apply uw);(intro p;rfl);rfl;kernel_rfl;kernel_rfl;rfl;kernel_rfl;rfl;rfl;rfl;rfl)|((with_reducible apply nk);(intro p;rfl);(intro p;rfl);rfl;kernel_rfl;(intro p;rfl);(first|with_reducible assumption|exact aI _|exact aj _|exact aH _|exact Zf _|assumption|rfl);omega;exact⟨by decide,ah_⟩;rfl;(focus (simp;done)))|((with_reducible apply gy hG hst c1);rfl;kernel_rfl;(intro p;(repeat (first|exact bU.nil|((with_reducible apply bU.cons);rfl;exact .same _))));exact n1)|(with_reducible refine DM.nil _ _ _ ?_))
 generalize ss=s2;generalize bb=b2
 intro p hp
 simp only[Yr] at hp
 obtain⟨_,_,_,hI,_⟩:=hp
 refine bV (objs':=((p 16).a,(p 16).b,.box [.nils,.nils,.nils,.int .i64 0])::((p 5).a,(p 10).b,.row 4 (x.entries.map (aD.tw lo)))::(rk x.classes (Enc.dec (p 4))++((s2,b2,.box [.nils,.nils,.nils,.int .i64 0])::R))) (by rw[show et _=[_,_,_] from rfl];simp only[ZC,ZK,Zt,Zk,ZF,Zx];(try rfl)) ?_
 dsimp only [Nat.reduceAdd] at hI |-
 generalize (Enc.dec (p 4):(Nat×Nat)×List (Nat×Nat))=yc at hI |-
 generalize Yu.a (p 16)=s3
 generalize Yu.b (p 16)=b3
 generalize Yu.a (p 5)=se
 generalize Yu.b (p 10)=be
 have hcl:=aB.len lo x.codes
 have hc1:=hb.2.1.1
 have hsm:=hb.2.1.2
 repeat' (first|refine W_ ?_|refine ac ?_)
 refine pW 1 4 (by decide) rfl fun sc=>?_
 obtain⟨RR,hRR⟩:∃RR:aG,RR=((se,be,.row 4 (x.entries.map (aD.tw 0)))::(rk x.classes yc++((s2,b2,aV.box [.nils,.nils,.nils,.int .i64 0])::R))):=⟨_,rfl⟩
 refine aR (objs':=(sc,0,.row 4 [])::(s3,b3,.box [.ms yc.1.1 yc.1.2 0 x.classes.length,.ms sc 0 0 0,.ms se be 0 x.entries.length,.int .i64 x.main])::RR) (by rw[hRR];exact pk_) ?_
 apply ap (X:=Nat×Nat×List (Nat×Nat)) [0,2,3,1000000] (fun y=>[(4,.int .i64 (y.1:Int))])
   (fun y=>(sc,y.2.1,.row 4 (nR cT (x.codes.take y.1) y.2.2))::(s3,b3,.box [.ms yc.1.1 yc.1.2 0 x.classes.length,.ms sc y.2.1 0 y.1,.ms se be 0 x.entries.length,.int .i64 x.main])::(nO fu (x.codes.take y.1) y.2.2++RR))
   (fun y=>y.1<=x.codes.length/\y.2.2.length=y.1) (fun y=>x.codes.length - y.1) (0,0,[]) ⟨Ze _,rfl⟩
 exact kp_;exact nw_
 ·exact .refl _
 rintro ⟨i,bc,ps⟩ ⟨hi,hps⟩
 dsimp only at hi hps |-
 by_cases hlt:i<x.codes.length
 ·have hrs:=fun p=>rJ cT hlt hps p
  have hos:=fun p=>lX fu hlt hps p
  have hra:(x.codes.map (aB.tw lo))[i]?=some (x.codes[i].tw lo):=aK hlt
  have hrl:(nR cT (x.codes.take i) ps).length=i:=by rw[ni _ (by rw[Zu];omega),Zu];omega
  have hbi:=hsm _ (Zb hlt)
  generalize x.codes[i]=c at hrs hos hra hbi
  have hil:c.instrs.length<=1048576:=hbi.1
  rw[show c.tw lo=[.bool c.block,.int .i64 c.params,.int .i64 c.slots,.sl lo 4 (c.instrs.map (am.tw lo))] from rfl] at hra
  have c2:=xD hst lo c hbi
  have n2:=fun(y:Nat×Nat) (_:True)=>ab8 c y
  generalize nO fu (x.codes.take i) ps=T at hos |-
  repeat' (first|refine W_ ?_|((with_reducible apply fm (id:=5) 13);kernel_rfl;kernel_rfl;kernel_rfl;rfl;(repeat (first|exact Cut.zero _|apply Cut.succ)))|((with_reducible apply m_q);exact ym_;rfl;exact ez)|((with_reducible apply cA);rfl;(intro p;try dsimp only);(repeat (first|exact TB.nil _|((with_reducible apply TB.cons);rfl;rfl;(first|exact .nil _|exact .put _ _ _ _ _ (.nil _)|exact .skip _ _ _ _ _ (.put _ _ _ _ _ (.nil _))|exact .skip _ _ _ _ _ (.skip _ _ _ _ _ (.put _ _ _ _ _ (.nil _)))|(repeat (first|exact .nil _|apply aW.put|apply aW.skip)));kernel_rfl)));rfl;kernel_rfl;kernel_rfl;exact ez)|((with_reducible apply jh);(intro p;rfl);rfl;kernel_rfl;kernel_rfl;rfl;kernel_rfl;rfl;(intro p;rfl);rfl;(intro p;rfl);exact ez)|((with_reducible apply gy hG hst c2);rfl;kernel_rfl;(intro p;(repeat (first|exact bU.nil|((with_reducible apply bU.cons);rfl;exact .same _))));exact n2)|((with_reducible apply kj);(intro p;rfl);(intro p;rfl);rfl;kernel_rfl;(intro p;rfl);exact hrl;(intro p;show List.length _=1;rfl);omega;exact fun p=>hrs (Enc.dec (p _));exact⟨by decide,by decide⟩;exact im;rfl;(focus (simp;done)))|(with_reducible refine DM.nil _ _ _ ?_))
  intro p hp
  refine bV (objs':=(sc,(p 11).b,.row 4 (nR cT (x.codes.take (i+1)) (ps++[Enc.dec (p 9)])))::((Enc.dec (p 9):Nat×Nat).1,(Enc.dec (p 9):Nat×Nat).2,fu c)::(s3,b3,.box [.ms yc.1.1 yc.1.2 0 x.classes.length,.ms sc bc 0 i,.ms se be 0 x.entries.length,.int .i64 x.main])::(T++RR)) (by rw[show et _=[_,_] from rfl];(try simp only[ZC,ZK,Zt,Zk,ZF,Zx]);(try rfl)) ?_
  dsimp only [Nat.reduceAdd] at hp |-
  generalize (Enc.dec (p 9):Nat×Nat)=q
  generalize Yu.b (p 11)=bb
  repeat' (first|refine W_ ?_|refine ac ?_)
  refine ah (i+1,bb,ps++[q]) ⟨by dsimp only;omega,by dsimp only;simp[hps]⟩ (by dsimp only;omega) (.of _ nw_ od_ ?_)
  dsimp only
  rw[hos q]
  exact aaa _ _ _ T RR
 ·obtain rfl:i=x.codes.length:=by omega
  rw[Zc (Zg _),hRR]
  refine aR (adK _ _ _ _ _ _ _) ?_
  repeat' (first|refine W_ ?_|refine ac ?_)
  exact aw (t1:=.agg [.ms yc.1.1 yc.1.2 0 x.classes.length,.ms sc bc 0 x.codes.length,.ms se be 0 x.entries.length,.int .i64 x.main]) x_ rfl (yc,((sc,bc),ps),(se,be)) ⟨hI,hps⟩ rfl (.app _ R) (.drop (.drop (.perm (wn _ _ _ _ R)))) (.cell _ _ _ _ _ rfl mm_ (by kernel_rfl) (by kernel_rfl) (by kernel_rfl)) rfl
end
def lc (objs:aG) (l l':List TV):Prop:=l'.length=l.length/\∀(j:Nat) (t t':TV),l[j]?=some t->l'[j]?=some t'->cy objs t t'
theorem lc.nil {objs:aG}:lc objs [] []:=⟨rfl,by simp⟩
theorem lc.cons {objs:aG} {t t':TV} {l l':List TV} (h:cy objs t t') (hr:lc objs l l'):lc objs (t::l) (t'::l'):=⟨by simp[hr.1],fun j u u' h1 h2=>by
 cases j with
 | zero=>simp at h1 h2;subst h1;subst h2;exact h
 | succ j=>exact hr.2 j u u' (by simpa using h1) (by simpa using h2)⟩
theorem lc.append {objs:aG} {a a' b b':List TV} (h:lc objs a a') (k:lc objs b b'):lc objs (a++b) (a'++b'):=⟨by simp[h.1,k.1],fun j u u' h1 h2=>by
 by_cases hj:j<a.length
 ·rw[Zs hj] at h1
  rw[Zs (by rw[h.1];exact hj)] at h2
  exact h.2 j u u' h1 h2
 ·rw[Zr (by omega)] at h1
  rw[Zr (by rw[h.1];omega)] at h2
  rw[h.1] at h2
  exact k.2 _ u u' h1 h2⟩
section
variable {G:World->Prop}
theorem qb (hst:ay G) (lo:Nat) (l:List ByteArray) (k:Int) (hn:l.length<=1099600000000) (hk:0<=k/\k<=1000000000000000):Ct Tryz.prog G 152 [.sl lo 1 (ca (mkL cY bm k l)),.int .i64 k] (fun _=>.int .i64 (kL bm k l)):=by
 refine av Tryz.func152 rfl Tryz.ntmps152 rfl rfl fun w0 _ hG=>?_
 have hrl:(ca (mkL cY bm k l)).length=l.length:=by simp[ca,co]
 have hget:=fun i (h:i<l.length)=>gn (mk:=cY) (nx:=bm) (k:=k) h
 have hgr:∀i (h:i<l.length),(ca (mkL cY bm k l))[i]?=some [.str (eh (kL bm k (l.take i)))]:=fun i h=>by
   simp only[ca,Zj,hget i h];rfl
 generalize ca (mkL cY bm k l)=rows at hrl hgr |-
 repeat' refine W_ ?_
 apply ap (X:=Nat) [0] (fun x=>[(5,.int .i64 (x:Int)),(1,.int .i64 (kL bm k (l.take x)))]) (fun _=>[]) (fun x=>x<=l.length) (fun x=>l.length - x) 0 (Ze _)
 exact kp_;exact nw_
 ·exact .refl _
 intro i hi
 try dsimp only
 have hq:=bu (k:=k) (i:=i) hn (fD l) hi
 by_cases hlt:i<l.length
 ·have hrow:=hgr i hlt
  have hks:kL bm k (l.take (i+1))=kL bm k (l.take i)+1:=db hlt
  generalize kL bm k (l.take i)=q at hq hrow hks |-
  have hs0:¬ eh (q)≠eh (q):=fun h=>h rfl
  have hm0:=ci (G:=G) (q) (by omega) (by omega)
  repeat' (first|refine V_ ?_|refine ai hG hst (hm0) ?_)
  all_goals first
    | exact ah (i+1) (by omega) (by omega) (.of _ (cW.envCons rfl (cW.envCons (ea rfl (by rw[hks])) cW.envNil)) od_ pk_)
    | (exfalso;simp_all;done)
 ·obtain rfl:i=l.length:=by omega
  rw[Zv]
  repeat' refine W_ ?_
  exact r1_
theorem kZ (hst:ay G) (lo:Nat) (l:List ByteArray) (k:Int) (hn:l.length<=1048576) (hk:0<=k/\k<=1000000000000000):Ct Tryz.prog G 152 [.sl lo 1 (ca (mkL cY bm k l)),.int .i64 k] (fun _=>.int .i64 (kL bm k l)):=qb hst lo l k (by omega) hk
theorem tL (hst:ay G) (lo:Nat) (l:List am) (k:Int) (hn:l.length<=1048576) (hk:0<=k/\k<=1000000000000000):Ct Tryz.prog G 218 [.sl lo 4 ((mkL eQ bL k l).map (am.tw lo)),.int .i64 k] (fun _=>.int .i64 (kL bL k l)):=by
 refine av Tryz.func218 rfl Tryz.ntmps218 rfl rfl fun w0 _ hG=>?_
 have hrl:((mkL eQ bL k l).map (am.tw lo)).length=l.length:=by simp[ca,co]
 have hget:=fun i (h:i<l.length)=>gn (mk:=eQ) (nx:=bL) (k:=k) h
 have hgr:∀i (h:i<l.length),((mkL eQ bL k l).map (am.tw lo))[i]?=some [.int .i64 (kL bL k (l.take i)),.int .i64 (kL bL k (l.take i)+1),.int .i64 (kL bL k (l.take i)+1+1),.str (eh (kL bL k (l.take i)+1+1+1))]:=fun i h=>by
   simp only[ca,Zj,hget i h];rfl
 generalize (mkL eQ bL k l).map (am.tw lo)=rows at hrl hgr |-
 repeat' refine W_ ?_
 apply ap (X:=Nat) [0] (fun x=>[(5,.int .i64 (x:Int)),(1,.int .i64 (kL bL k (l.take x)))]) (fun _=>[]) (fun x=>x<=l.length) (fun x=>l.length - x) 0 (Ze _)
 exact kp_;exact nw_
 ·exact .refl _
 intro i hi
 try dsimp only
 have hq:=bu (k:=k) (i:=i) hn (jR l) hi
 by_cases hlt:i<l.length
 ·have hrow:=hgr i hlt
  have hks:kL bL k (l.take (i+1))=kL bL k (l.take i)+1+1+1+1:=db hlt
  generalize kL bL k (l.take i)=q at hq hrow hks |-
  have hi0:¬ (q)≠(q):=fun h=>h rfl
  have hi1:¬ (q+1)≠(q+1):=fun h=>h rfl
  have hi2:¬ (q+1+1)≠(q+1+1):=fun h=>h rfl
  have hs3:¬ eh (q+1+1+1)≠eh (q+1+1+1):=fun h=>h rfl
  have hm3:=ci (G:=G) (q+1+1+1) (by omega) (by omega)
  repeat' (first|refine V_ ?_|refine ai hG hst (hm3) ?_)
  all_goals first
    | exact ah (i+1) (by omega) (by omega) (.of _ (cW.envCons rfl (cW.envCons (ea rfl (by rw[hks])) cW.envNil)) od_ pk_)
    | (exfalso;simp_all;done)
 ·obtain rfl:i=l.length:=by omega
  rw[Zv]
  repeat' refine W_ ?_
  exact r1_
theorem tI (hst:ay G) (lo:Nat) (l:List aD) (k:Int) (hn:l.length<=1048576) (hk:0<=k/\k<=1000000000000000):Ct Tryz.prog G 150 [.sl lo 4 ((mkL fo bW k l).map (aD.tw lo)),.int .i64 k] (fun _=>.int .i64 (kL bW k l)):=by
 refine av Tryz.func150 rfl Tryz.ntmps150 rfl rfl fun w0 _ hG=>?_
 have hrl:((mkL fo bW k l).map (aD.tw lo)).length=l.length:=by simp[ca,co]
 have hget:=fun i (h:i<l.length)=>gn (mk:=fo) (nx:=bW) (k:=k) h
 have hgr:∀i (h:i<l.length),((mkL fo bW k l).map (aD.tw lo))[i]?=some [.int .i64 (kL bW k (l.take i)),.bool (decide ((kL bW k (l.take i)+1).tmod 3=0)),.str (eh (kL bW k (l.take i)+1+1)),.int .i64 (kL bW k (l.take i)+1+1+1)]:=fun i h=>by
   simp only[ca,Zj,hget i h];rfl
 generalize (mkL fo bW k l).map (aD.tw lo)=rows at hrl hgr |-
 repeat' refine W_ ?_
 apply ap (X:=Nat) [0] (fun x=>[(5,.int .i64 (x:Int)),(1,.int .i64 (kL bW k (l.take x)))]) (fun _=>[]) (fun x=>x<=l.length) (fun x=>l.length - x) 0 (Ze _)
 exact kp_;exact nw_
 ·exact .refl _
 intro i hi
 try dsimp only
 have hq:=bu (k:=k) (i:=i) hn (j5 l) hi
 by_cases hlt:i<l.length
 ·have hrow:=hgr i hlt
  have hks:kL bW k (l.take (i+1))=kL bW k (l.take i)+1+1+1+1:=db hlt
  generalize kL bW k (l.take i)=q at hq hrow hks |-
  have hi0:¬ (q)≠(q):=fun h=>h rfl
  have hb1:(decide ((q+1).tmod 3=0) != decide ((q+1).tmod 3=0))=false:=by simp
  have hs2:¬ eh (q+1+1)≠eh (q+1+1):=fun h=>h rfl
  have hm2:=ci (G:=G) (q+1+1) (by omega) (by omega)
  have hi3:¬ (q+1+1+1)≠(q+1+1+1):=fun h=>h rfl
  repeat' (first|refine V_ ?_|refine ai hG hst (hm2) ?_|refine c_ (fun hc=>?_) (fun hc=>?_))
  all_goals first
    | exact ah (i+1) (by omega) (by omega) (.of _ (cW.envCons rfl (cW.envCons (ea rfl (by rw[hks])) cW.envNil)) od_ pk_)
    | (exfalso;simp_all;done)
 ·obtain rfl:i=l.length:=by omega
  rw[Zv]
  repeat' refine W_ ?_
  exact r1_
theorem jm (hst:ay G) (lo:Nat) (l:List aa) (k:Int) (hn:l.length<=1048576/\∀y∈l,aa.small 1048576 y) (hk:0<=k/\k<=100000000000000):Ct Tryz.prog G 148 [.sl lo 3 ((mkL bs aC k l).map (aa.tw lo)),.int .i64 k] (fun _=>.int .i64 (kL aC k l)):=by
 refine av Tryz.func148 rfl Tryz.ntmps148 rfl rfl fun w0 _ hG=>?_
 obtain⟨hn,hsm⟩:=hn
 have hrl:((mkL bs aC k l).map (aa.tw lo)).length=l.length:=by simp[co]
 have hgr:∀i (h:i<l.length),((mkL bs aC k l).map (aa.tw lo))[i]?=some ((bs (kL aC k (l.take i)) l[i]).tw lo):=fun i h=>by
   simp only[Zj,gn (mk:=bs) (nx:=aC) (k:=k) h];rfl
 generalize (mkL bs aC k l).map (aa.tw lo)=rows at hrl hgr |-
 repeat' refine W_ ?_
 apply ap (X:=Nat) [0] (fun x=>[(5,.int .i64 (x:Int)),(1,.int .i64 (kL aC k (l.take x)))]) (fun _=>[]) (fun x=>x<=l.length) (fun x=>l.length - x) 0 (Ze _)
 exact kp_;exact nw_
 ·exact .refl _
 intro i hi
 try dsimp only
 have hq:=bu (k:=k) (i:=i) hn (cM hsm) hi
 by_cases hlt:i<l.length
 ·have hrow:=hgr i hlt
  have hks:=db (nx:=aC) (k:=k) hlt
  have hb:=hsm _ (Zb hlt)
  generalize kL aC k (l.take i)=q at hq hrow hks |-
  generalize l[i]=x at hrow hks hb
  replace hrow:rows[i]?=some [.str (eh (q)),.int .i64 (q+1),.sl lo 1 (ca (mkL cY bm (q+1+1) x.fields))]:=hrow
  have hin:=kZ hst lo x.fields (q+1+1) hb.2.1 (by omega)
  have hinr:=iL (nx:=bm) (l:=x.fields) (k:=q+1+1) (fD _)
  have hks2:kL aC k (l.take (i+1))=kL bm (q+1+1) x.fields:=hks
  have hs0:¬ eh (q)≠eh (q):=fun h=>h rfl
  have hm0:=ci (G:=G) (q) (by omega) (by omega)
  have hi1:¬ (q+1)≠(q+1):=fun h=>h rfl
  repeat' (first|refine V_ ?_|refine ae hG hst (hin) ?_|refine ai hG hst (hm0) ?_)
  all_goals first
    | exact ah (i+1) (by omega) (by omega) (.of _ (cW.envCons rfl (cW.envCons (ea rfl (by rw[hks2])) cW.envNil)) od_ pk_)
    | (exfalso;simp_all;done)
    | (exfalso;omega)
 ·obtain rfl:i=l.length:=by omega
  rw[Zv]
  repeat' refine W_ ?_
  exact r1_
theorem wa (hst:ay G) (lo:Nat) (l:List aB) (k:Int) (hn:l.length<=1048576/\∀y∈l,aB.small 1048576 y) (hk:0<=k/\k<=100000000000000):Ct Tryz.prog G 149 [.sl lo 4 ((mkL ee ck k l).map (aB.tw lo)),.int .i64 k] (fun _=>.int .i64 (kL ck k l)):=by
 refine av Tryz.func149 rfl Tryz.ntmps149 rfl rfl fun w0 _ hG=>?_
 obtain⟨hn,hsm⟩:=hn
 have hrl:((mkL ee ck k l).map (aB.tw lo)).length=l.length:=by simp[co]
 have hgr:∀i (h:i<l.length),((mkL ee ck k l).map (aB.tw lo))[i]?=some ((ee (kL ck k (l.take i)) l[i]).tw lo):=fun i h=>by
   simp only[Zj,gn (mk:=ee) (nx:=ck) (k:=k) h];rfl
 generalize (mkL ee ck k l).map (aB.tw lo)=rows at hrl hgr |-
 repeat' refine W_ ?_
 apply ap (X:=Nat) [0] (fun x=>[(5,.int .i64 (x:Int)),(1,.int .i64 (kL ck k (l.take x)))]) (fun _=>[]) (fun x=>x<=l.length) (fun x=>l.length - x) 0 (Ze _)
 exact kp_;exact nw_
 ·exact .refl _
 intro i hi
 try dsimp only
 have hq:=bu (k:=k) (i:=i) hn (jv hsm) hi
 by_cases hlt:i<l.length
 ·have hrow:=hgr i hlt
  have hks:=db (nx:=ck) (k:=k) hlt
  have hb:=hsm _ (Zb hlt)
  generalize kL ck k (l.take i)=q at hq hrow hks |-
  generalize l[i]=x at hrow hks hb
  replace hrow:rows[i]?=some [.bool (decide ((q).tmod 3=0)),.int .i64 (q+1),.int .i64 (q+1+1),.sl lo 4 ((mkL eQ bL (q+1+1+1) x.instrs).map (am.tw lo))]:=hrow
  have hin:=tL hst lo x.instrs (q+1+1+1) hb.1 (by omega)
  have hinr:=iL (nx:=bL) (l:=x.instrs) (k:=q+1+1+1) (jR _)
  have hks2:kL ck k (l.take (i+1))=kL bL (q+1+1+1) x.instrs:=hks
  have hb0:(decide ((q).tmod 3=0) != decide ((q).tmod 3=0))=false:=by simp
  have hi1:¬ (q+1)≠(q+1):=fun h=>h rfl
  have hi2:¬ (q+1+1)≠(q+1+1):=fun h=>h rfl
  repeat' (first|refine V_ ?_|refine ae hG hst (hin) ?_|refine c_ (fun hc=>?_) (fun hc=>?_))
  all_goals first
    | exact ah (i+1) (by omega) (by omega) (.of _ (cW.envCons rfl (cW.envCons (ea rfl (by rw[hks2])) cW.envNil)) od_ pk_)
    | (exfalso;simp_all;done)
    | (exfalso;omega)
 ·obtain rfl:i=l.length:=by omega
  rw[Zv]
  repeat' refine W_ ?_
  exact r1_
theorem qC (hst:ay G) (lo:Nat) (x:aF) (hb:x.small 1048576) (k:Int) (hk:0<=k/\k<=50000000000000):Ct Tryz.prog G 60 [.agg ((dc k x).tw lo),.int .i64 k] (fun _=>.int .i64 (bw k x)):=by
 refine av Tryz.func60 rfl Tryz.ntmps60 rfl rfl fun w0 _ hG=>?_
 have h1:=bu (k:=k) (i:=x.classes.length) hb.1.1 (cM hb.1.2) (Zg _)
 have h2:=bu (k:=kL aC k x.classes) (i:=x.codes.length) hb.2.1.1 (jv hb.2.1.2) (Zg _)
 have h3:=bu (k:=kL ck (kL aC k x.classes) x.codes) (i:=x.entries.length) hb.2.2.1 (j5 x.entries) (Zg _)
 rw[Zv] at h1 h2 h3
 have c1:=jm hst lo x.classes k hb.1 (by omega)
 have c2:=wa hst lo x.codes (kL aC k x.classes) hb.2.1 (by omega)
 have c3:=tI hst lo x.entries (kL ck (kL aC k x.classes) x.codes) hb.2.2.1 (by omega)
 unfold aF.tw dc bw
 dsimp only
 repeat' (first|refine W_ ?_|refine aJ ?_|refine ae hG hst (c1) ?_|refine ae hG hst (c2) ?_|refine ae hG hst (c3) ?_)
 exact r1_
end
end Go.Proofs.YtifcomgnmokimaaGreatDoor
