/- Part 14 of the proof: the texts MkN, MkC, MkV, CpA, CpB, CpC, CpD, MkH. -/
import Derived.Test.YtofnnnpahglfdaaGreatDoorCo3
import Derived.Test.YtofnnnpahglfdaaGreatDoorCo8
import Derived.Test.YtofnnnpahglfdaaGreatDoorCo9
set_option linter.all false
set_option maxHeartbeats 2000000
set_option maxRecDepth 20000
namespace Go.Proofs.YtofnnnpahglfdaaGreatDoor
open Go Go.RowKit
def mkL {α:Type} (mk:Int->α->α) (nx:Int->α->Int):Int->List α->List α
 | _,[]=>[]
 | k,x::r=>mk k x::mkL mk nx (nx k x) r
def kL {α:Type} (nx:Int->α->Int) (k:Int) (l:List α):Int:=l.foldl nx k
def ptL {α:Type} (mk:Int->α->α) (nx:Int->α->Int) (k:Int) (l:List α) (i:Nat):List α:=mkL mk nx k (l.take i)++l.drop i
section
variable {α:Type} {mk:Int->α->α} {nx:Int->α->Int}
theorem cj:∀(k:Int) (l:List α),(mkL mk nx k l).length=l.length
 | _,[]=>rfl
 | k,x::r=>by simp[mkL,cj (nx k x) r]
theorem xG:∀(k:Int) (a b:List α),mkL mk nx k (a++b)=mkL mk nx k a++mkL mk nx (kL nx k a) b
 | _,[],b=>rfl
 | k,x::r,b=>by
   show mk k x::mkL mk nx (nx k x) (r++b)=mk k x::(mkL mk nx (nx k x) r++mkL mk nx (kL nx (nx k x) r) b)
   rw[xG]
theorem cU {k:Int} {l:List α} {i:Nat} (h:i<l.length):kL nx k (l.take (i+1))=nx (kL nx k (l.take i)) l[i]:=by
 rw[dV h]
 unfold kL
 rw[List.foldl_append];rfl
theorem du {k:Int} {l:List α} {i:Nat} (h:i<=l.length):(ptL mk nx k l i).length=l.length:=by
 unfold ptL
 rw[Zs,cj,Zu,Yw];omega
theorem ex {k:Int} {l:List α} {i:Nat} (h:i<l.length):(ptL mk nx k l i)[i]?=some l[i]:=by
 unfold ptL
 rw[Zr (by rw[cj,Zu];omega),cj,Zu,show i - min i l.length=0 by omega,ZH h];rfl
theorem gn {k:Int} {l:List α} {i:Nat} (h:i<l.length):(ptL mk nx k l i).set i (mk (kL nx k (l.take i)) l[i])=ptL mk nx k l (i+1):=by
 unfold ptL
 rw[YB _ _ (by rw[cj,Zu];omega),cj,Zu,show i - min i l.length=0 by omega,ZH h,YS,dV h,xG,Zh];rfl
theorem eI (k:Int) (l:List α):ptL mk nx k l l.length=mkL mk nx k l:=by
 unfold ptL
 rw[Zw,List.drop_length,Zo]
theorem gC {k:Int} {l:List α} {i:Nat} (h:i<l.length):(mkL mk nx k l)[i]?=some (mk (kL nx k (l.take i)) l[i]):=by
 conv=>lhs;rw[<- YT i l,xG]
 rw[Zr (by rw[cj,Zu];omega),cj,Zu,show i - min i l.length=0 by omega,ZH h];rfl
theorem io {c:Nat}:∀{l:List α} {k:Int},(∀x∈l,∀q,q<=nx q x/\nx q x<=q+c)->k<=kL nx k l/\kL nx k l<=k+c * l.length
 | [],k,_=>by show k<=k/\k<=k+_;simp
 | x::r,k,h=>by
   have h1:=h x Zi k
   have h2:=io (l:=r) (k:=nx k x) (fun y hy=>h y (Zg _ hy))
   have e:kL nx k (x::r)=kL nx (nx k x) r:=rfl
   have e2:(c:Int) * (((x::r).length:Nat):Int)=c * (r.length:Nat)+c:=by rw[ZC,Int.natCast_add,Int.mul_add];simp
   rw[e,e2]
   omega
theorem ba {c:Nat} {l:List α} {k:Int} {i:Nat} {n:Nat} (hn:l.length<=n) (h:∀x∈l,∀q,q<=nx q x/\nx q x<=q+c) (hi:i<=l.length):k<=kL nx k (l.take i)/\kL nx k (l.take i)<=k+c * n:=by
 have h1:=io (nx:=nx) (c:=c) (l:=l.take i) (k:=k) (fun x hx=>h x (ZQ hx))
 have h2:(l.take i).length<=n:=by rw[Zu];omega
 have h3:(c:Int) * ((l.take i).length:Nat)<=c * n:=by exact_mod_cast Xd c h2
 omega
end
theorem agO {α:Type} (ob:α->aW) {l:List α} {ps:List (Nat×Nat)} {i:Nat} {p:Nat×Nat} {x:α} (hx:l[i]?=some x) (hp:ps[i]?=some p):(nO ob l ps)[i]?=some (p.1,p.2,ob x):=by
 unfold nO
 rw[Y8,hx,hp]
theorem aeu {α:Type} (mk:α->Nat×Nat->List TV) {l:List α} {ps:List (Nat×Nat)} {i:Nat} {p:Nat×Nat} {x:α} (hx:l[i]?=some x) (hp:ps[i]?=some p):(nR mk l ps)[i]?=some (mk x p):=by
 unfold nR
 rw[Y8,hx,hp]
theorem oO {α β γ:Type} (f:α->β->γ):∀{l:List α} {ps:List β} {i:Nat} {p:β} {x:α},ps[i]?=some p->List.zipWith f (l.set i x) ps=(List.zipWith f l ps).set i (f x p)
 | [],_,_,_,_,_=>by simp
 | _::_,[],_,_,_,h=>by simp at h
 | a::l,q::ps,0,p,x,h=>by simp at h;subst h;simp
 | a::l,q::ps,i+1,p,x,h=>by
   have:=oO f (l:=l) (ps:=ps) (i:=i) (p:=p) (x:=x) (by simpa using h)
   simp[this]
theorem aeW {α:Type} (mk:α->Nat×Nat->List TV) {l:List α} {ps:List (Nat×Nat)} {i:Nat} {p:Nat×Nat} {x:α} (hp:ps[i]?=some p):nR mk (l.set i x) ps=(nR mk l ps).set i (mk x p):=oO mk hp
theorem sE {α:Type}:∀{l:List α} {i:Nat} {x:α},l[i]?=some x->l.Perm (x::l.eraseIdx i)
 | [],_,_,h=>by simp at h
 | a::l,0,x,h=>by simp at h;subst h;exact .refl _
 | a::l,i+1,x,h=>by
   have:=sE (l:=l) (i:=i) (x:=x) (by simpa using h)
   exact(this.cons a).trans (.swap x a _)
theorem oG {α:Type}:∀(l:List α) (i:Nat) (x:α),(l.set i x).eraseIdx i=l.eraseIdx i
 | [],_,_=>rfl
 | a::l,0,x=>rfl
 | a::l,i+1,x=>by simp[oG l i x]
theorem aa0 {α:Type} (ob:α->aW) {l:List α} {ps:List (Nat×Nat)} {i:Nat} {p:Nat×Nat} {x:α} (hx:l[i]?=some x) (hp:ps[i]?=some p):(nO ob l ps).Perm ((p.1,p.2,ob x)::(nO ob l ps).eraseIdx i):=sE (agO ob hx hp)
theorem agM {α:Type} (ob:α->aW) {l:List α} {ps:List (Nat×Nat)} {i:Nat} {p:Nat×Nat} {x:α} (hl:i<l.length) (hp:ps[i]?=some p):(nO ob (l.set i x) ps).Perm ((p.1,p.2,ob x)::(nO ob l ps).eraseIdx i):=by
 have h:=aa0 ob (l:=l.set i x) (ps:=ps) (i:=i) (p:=p) (x:=x) (by rw[ZP hl]) hp
 have e:(nO ob (l.set i x) ps).eraseIdx i=(nO ob l ps).eraseIdx i:=by
   unfold nO
   rw[oO _ hp,oG]
 rw[e] at h
 exact h
theorem zg {a z:Nat×Nat×aW} {N E:aJ} (h:N.Perm (z::E)) (R:aJ):bW (z::a::(E++R)) (a::(N++R)):=.perm (by
 have h1:(a::(N++R)).Perm (a::z::(E++R)):=((h.append_right R)).cons a
 exact(List.Perm.swap a z _).trans h1.symm)
theorem acd {a z:Nat×Nat×aW} {N E:aJ} (h:N.Perm (z::E)) (R:aJ):bW (a::(N++R)) (z::a::(E++R)):=.perm (by
 have h1:(a::(N++R)).Perm (a::z::(E++R)):=((h.append_right R)).cons a
 exact h1.trans (List.Perm.swap z a _))
theorem sA (A B C:aJ):bW (B++(A++C)) (A++(B++C)):=.perm (by
 rw[<- Zh,<- Zh]
 exact List.perm_append_comm.append_right C)
def cP (k:Int) (_:ByteArray):ByteArray:=dU k
def aZ (k:Int) (_:ByteArray):Int:=k+1
theorem fq (l:List ByteArray):∀x∈l,∀q,q<=aZ q x/\aZ q x<=q+(1:Nat):=fun x _ q=>by unfold aZ;omega
theorem aef (l:List ByteArray) (k:Nat) (s:ByteArray):(bQ l).set k [TV.str s]=bQ (l.set k s):=by simp[bQ,Ys]
def ep (k:Int) (_:ak):ak:=⟨k,k+1,k+1+1,dU (k+1+1+1)⟩
def bJ (k:Int) (_:ak):Int:=k+1+1+1+1
theorem jO (l:List ak):∀x∈l,∀q,q<=bJ q x/\bJ q x<=q+(4:Nat):=fun x _ q=>by unfold bJ;omega
def eZ (k:Int) (_:aF):aF:=⟨k,decide ((k+1).tmod 3=0),dU (k+1+1),k+1+1+1⟩
def bP (k:Int) (_:aF):Int:=k+1+1+1+1
theorem jE (l:List aF):∀x∈l,∀q,q<=bP q x/\bP q x<=q+(4:Nat):=fun x _ q=>by unfold bP;omega
def bj (k:Int) (x:aa):aa:=⟨dU (k),k+1,mkL cP aZ (k+1+1) x.fields⟩
def aE (k:Int) (x:aa):Int:=kL aZ (k+1+1) x.fields
theorem cF {l:List aa} (h:∀y∈l,aa.small 1048576 y):∀x∈l,∀q,q<=aE q x/\aE q x<=q+(1048578:Nat):=fun x hx q=>by
 have h1:=h x hx
 have h2:=h1.2.1
 have h3:=io (nx:=aZ) (l:=x.fields) (k:=q+1+1) (fq _)
 unfold aE
 omega
def dQ (k:Int) (x:aH):aH:=⟨decide ((k).tmod 3=0),k+1,k+1+1,mkL ep bJ (k+1+1+1) x.instrs⟩
def cg (k:Int) (x:aH):Int:=kL bJ (k+1+1+1) x.instrs
theorem js {l:List aH} (h:∀y∈l,aH.small 1048576 y):∀x∈l,∀q,q<=cg q x/\cg q x<=q+(4194307:Nat):=fun x hx q=>by
 have h1:=h x hx
 have h2:=h1.1
 have h3:=io (nx:=bJ) (l:=x.instrs) (k:=q+1+1+1) (jO _)
 unfold cg
 omega
section
variable {G:World->Prop}
theorem nA (hst:aC G) (s b:Nat) (l:List ByteArray) (k:Int) (hn:l.length<=1099600000000) (hk:0<=k/\k<=1000000000000000):CtM Tryz.prog G 19 [.ms s b 0 l.length,.int .i64 k] [(s,b,.row 1 (bQ (l)))] (fun _:Unit=>True) (fun _=>[(s,b,.row 1 (bQ (mkL cP aZ k l)))]) (fun _=>.int .i64 (kL aZ k l)):=by
 refine aA Tryz.func19 rfl Tryz.ntmps19 rfl rfl rfl fun w0 R gs objsR hG hR=>?_
 obtain rfl:=hR.inv1
 clear hR
 repeat' refine W_ ?_
 apply aj (X:=Nat) [0,1000000] (fun x=>[(5,.int .i64 (x:Int)),(1,.int .i64 (kL aZ k (l.take x)))]) (fun x=>(s,b,.row 1 (bQ (ptL cP aZ k l x)))::R) (fun x=>x<=l.length) (fun x=>l.length - x) 0 (Zd _)
 exact kp_;exact nw_
 ·exact .refl _
 intro i hi
 try dsimp only
 have hq:=ba (k:=k) (i:=i) hn (fq l) hi
 by_cases hlt:i<l.length
 ·have hrow:(bQ (ptL cP aZ k l i))[i]?=some ((fun s:ByteArray=>[TV.str s]) l[i]):=by
    simp only[bQ,Zp,ex hlt];rfl
  have hset:(bQ (ptL cP aZ k l i)).set i ((fun s:ByteArray=>[TV.str s]) (cP (kL aZ k (l.take i)) l[i]))=bQ (ptL cP aZ k l (i+1)):=by
    rw[<- gn hlt,aef]
  have hks:=cU (nx:=aZ) (k:=k) hlt
  have hrl:(bQ (ptL cP aZ k l i)).length=l.length:=by simp[bQ,du hi]
  generalize bQ (ptL cP aZ k l i)=rows at hrow hset hrl |-
  generalize kL aZ k (l.take i)=q at hq hset hks |-
  generalize l[i]=x at hrow hset hks
  replace hrow:rows[i]?=some [.str x]:=hrow
  have hks2:kL aZ k (l.take (i+1))=q+1:=hks
  repeat' (first|refine W_ ?_|refine bm ?_|((with_reducible apply mC);rfl;kernel_rfl;(repeat (first|exact bD.nil|((with_reducible apply bD.cons);rfl;exact .same _)));exact hG;exact hst;exact bZ _ (by omega) (by omega)))
  refine ag (i+1) (by omega) (by omega) (.of _ (cq.envCons rfl (cq.envCons (dl rfl (by rw[hks2])) cq.envNil)) od_ ?_)
  rw[<- hset]
  (try simp only[YG])
  exact .refl _
 ·obtain rfl:i=l.length:=by omega
  rw[eI,Zw]
  repeat' refine W_ ?_
  exact aD x_ rfl () trivial rfl (.cons _ _ _ _ (.nil R)) pk_ (.tmp _ _ rfl) rfl
theorem ja (hst:aC G) (s b:Nat) (l:List ByteArray) (k:Int) (hn:l.length<=1048576) (hk:0<=k/\k<=1000000000000000):CtM Tryz.prog G 19 [.ms s b 0 l.length,.int .i64 k] [(s,b,.row 1 (bQ (l)))] (fun _:Unit=>True) (fun _=>[(s,b,.row 1 (bQ (mkL cP aZ k l)))]) (fun _=>.int .i64 (kL aZ k l)):=nA hst s b l k (by omega) hk
theorem p8 (hst:aC G) (s b:Nat) (l:List ak) (k:Int) (hn:l.length<=1048576) (hk:0<=k/\k<=1000000000000000):CtM Tryz.prog G 211 [.ms s b 0 l.length,.int .i64 k] [(s,b,.row 4 ((l).map (ak.tw 0)))] (fun _:Unit=>True) (fun _=>[(s,b,.row 4 ((mkL ep bJ k l).map (ak.tw 0)))]) (fun _=>.int .i64 (kL bJ k l)):=by
 refine aA Tryz.func211 rfl Tryz.ntmps211 rfl rfl rfl fun w0 R gs objsR hG hR=>?_
 obtain rfl:=hR.inv1
 clear hR
 repeat' refine W_ ?_
 apply aj (X:=Nat) [0,1000000] (fun x=>[(5,.int .i64 (x:Int)),(1,.int .i64 (kL bJ k (l.take x)))]) (fun x=>(s,b,.row 4 ((ptL ep bJ k l x).map (ak.tw 0)))::R) (fun x=>x<=l.length) (fun x=>l.length - x) 0 (Zd _)
 exact kp_;exact nw_
 ·exact .refl _
 intro i hi
 try dsimp only
 have hq:=ba (k:=k) (i:=i) hn (jO l) hi
 by_cases hlt:i<l.length
 ·have hrow:((ptL ep bJ k l i).map (ak.tw 0))[i]?=some ((ak.tw 0) l[i]):=by
    simp only[bQ,Zp,ex hlt];rfl
  have hset:((ptL ep bJ k l i).map (ak.tw 0)).set i ((ak.tw 0) (ep (kL bJ k (l.take i)) l[i]))=(ptL ep bJ k l (i+1)).map (ak.tw 0):=by
    rw[<- gn hlt,Ys]
  have hks:=cU (nx:=bJ) (k:=k) hlt
  have hrl:((ptL ep bJ k l i).map (ak.tw 0)).length=l.length:=by simp[bQ,du hi]
  generalize (ptL ep bJ k l i).map (ak.tw 0)=rows at hrow hset hrl |-
  generalize kL bJ k (l.take i)=q at hq hset hks |-
  generalize l[i]=x at hrow hset hks
  replace hrow:rows[i]?=some [.int .i64 x.op,.int .i64 x.a,.int .i64 x.b,.str x.text]:=hrow
  have hr1:(rows.set i [.int .i64 q,.int .i64 x.a,.int .i64 x.b,.str x.text])[i]?=some [.int .i64 q,.int .i64 x.a,.int .i64 x.b,.str x.text]:=by rw[ZP (by omega)]
  have hks2:kL bJ k (l.take (i+1))=q+1+1+1+1:=hks
  repeat' (first|refine W_ ?_|refine bm ?_|((with_reducible apply mC);rfl;kernel_rfl;(repeat (first|exact bD.nil|((with_reducible apply bD.cons);rfl;exact .same _)));exact hG;exact hst;exact bZ _ (by omega) (by omega)))
  refine ag (i+1) (by omega) (by omega) (.of _ (cq.envCons rfl (cq.envCons (dl rfl (by rw[hks2])) cq.envNil)) od_ ?_)
  rw[<- hset]
  (try simp only[YG])
  exact .refl _
 ·obtain rfl:i=l.length:=by omega
  rw[eI,Zw]
  repeat' refine W_ ?_
  exact aD x_ rfl () trivial rfl (.cons _ _ _ _ (.nil R)) pk_ (.tmp _ _ rfl) rfl
theorem p9 (hst:aC G) (s b:Nat) (l:List aF) (k:Int) (hn:l.length<=1048576) (hk:0<=k/\k<=1000000000000000):CtM Tryz.prog G 133 [.ms s b 0 l.length,.int .i64 k] [(s,b,.row 4 ((l).map (aF.tw 0)))] (fun _:Unit=>True) (fun _=>[(s,b,.row 4 ((mkL eZ bP k l).map (aF.tw 0)))]) (fun _=>.int .i64 (kL bP k l)):=by
 refine aA Tryz.func133 rfl Tryz.ntmps133 rfl rfl rfl fun w0 R gs objsR hG hR=>?_
 obtain rfl:=hR.inv1
 clear hR
 repeat' refine W_ ?_
 apply aj (X:=Nat) [0,1000000] (fun x=>[(5,.int .i64 (x:Int)),(1,.int .i64 (kL bP k (l.take x)))]) (fun x=>(s,b,.row 4 ((ptL eZ bP k l x).map (aF.tw 0)))::R) (fun x=>x<=l.length) (fun x=>l.length - x) 0 (Zd _)
 exact kp_;exact nw_
 ·exact .refl _
 intro i hi
 try dsimp only
 have hq:=ba (k:=k) (i:=i) hn (jE l) hi
 by_cases hlt:i<l.length
 ·have hrow:((ptL eZ bP k l i).map (aF.tw 0))[i]?=some ((aF.tw 0) l[i]):=by
    simp only[bQ,Zp,ex hlt];rfl
  have hset:((ptL eZ bP k l i).map (aF.tw 0)).set i ((aF.tw 0) (eZ (kL bP k (l.take i)) l[i]))=(ptL eZ bP k l (i+1)).map (aF.tw 0):=by
    rw[<- gn hlt,Ys]
  have hks:=cU (nx:=bP) (k:=k) hlt
  have hrl:((ptL eZ bP k l i).map (aF.tw 0)).length=l.length:=by simp[bQ,du hi]
  generalize (ptL eZ bP k l i).map (aF.tw 0)=rows at hrow hset hrl |-
  generalize kL bP k (l.take i)=q at hq hset hks |-
  generalize l[i]=x at hrow hset hks
  replace hrow:rows[i]?=some [.int .i64 x.owner,.bool x.class_,.str x.selector,.int .i64 x.code]:=hrow
  have hr1:(rows.set i [.int .i64 q,.bool x.class_,.str x.selector,.int .i64 x.code])[i]?=some [.int .i64 q,.bool x.class_,.str x.selector,.int .i64 x.code]:=by rw[ZP (by omega)]
  have hks2:kL bP k (l.take (i+1))=q+1+1+1+1:=hks
  repeat' (first|refine W_ ?_|refine bm ?_|((with_reducible apply mC);rfl;kernel_rfl;(repeat (first|exact bD.nil|((with_reducible apply bD.cons);rfl;exact .same _)));exact hG;exact hst;exact bZ _ (by omega) (by omega)))
  refine ag (i+1) (by omega) (by omega) (.of _ (cq.envCons rfl (cq.envCons (dl rfl (by rw[hks2])) cq.envNil)) od_ ?_)
  rw[<- hset]
  (try simp only[YG])
  exact .refl _
 ·obtain rfl:i=l.length:=by omega
  rw[eI,Zw]
  repeat' refine W_ ?_
  exact aD x_ rfl () trivial rfl (.cons _ _ _ _ (.nil R)) pk_ (.tmp _ _ rfl) rfl
theorem gL (hst:aC G) (s b:Nat) (l:List aa) (ps:List (Nat×Nat)) (hps:ps.length=l.length) (k:Int) (hn:l.length<=1048576/\∀y∈l,aa.small 1048576 y) (hk:0<=k/\k<=100000000000000) :
   CtM Tryz.prog G 131 [.ms s b 0 l.length,.int .i64 k] ((s,b,.row 3 (nR fc l ps))::nO ga l ps) (fun _:Unit=>True) (fun _=>(s,b,.row 3 (nR fc (mkL bj aE k l) ps))::nO ga (mkL bj aE k l) ps) (fun _=>.int .i64 (kL aE k l)):=by
 refine aA Tryz.func131 rfl Tryz.ntmps131 rfl rfl rfl fun w0 R gs objsR hG hR=>?_
 obtain rfl:=hR.eq
 clear hR
 obtain⟨hn,hsm⟩:=hn
 repeat' refine W_ ?_
 apply aj (X:=Nat) [0,1000000] (fun x=>[(5,.int .i64 (x:Int)),(1,.int .i64 (kL aE k (l.take x)))]) (fun x=>(s,b,.row 3 (nR fc (ptL bj aE k l x) ps))::(nO ga (ptL bj aE k l x) ps++R)) (fun x=>x<=l.length) (fun x=>l.length - x) 0 (Zd _)
 exact kp_;exact nw_
 ·exact .refl _
 intro i hi
 try dsimp only
 have hq:=ba (k:=k) (i:=i) hn (cF hsm) hi
 by_cases hlt:i<l.length
 ·obtain⟨p,hp⟩:∃p,ps[i]?=some p:=⟨_,Za (by omega)⟩
  have hpl:i<(ptL bj aE k l i).length:=by rw[du hi];exact hlt
  have hrow:=aeu fc (ex (mk:=bj) (nx:=aE) (k:=k) hlt) hp
  have hset:=aeW fc (l:=ptL bj aE k l i) (x:=bj (kL aE k (l.take i)) l[i]) hp
  have hout:=aa0 ga (ex (mk:=bj) (nx:=aE) (k:=k) hlt) hp
  have hin:=agM ga (x:=bj (kL aE k (l.take i)) l[i]) hpl hp
  rw[gn hlt] at hset hin
  have hks:=cU (nx:=aE) (k:=k) hlt
  have hrl:(nR fc (ptL bj aE k l i) ps).length=l.length:=by rw[rz _ (by rw[du hi];exact hps),du hi]
  have hb:=hsm _ (Zb hlt)
  generalize (nO ga (ptL bj aE k l i) ps).eraseIdx i=E at hout hin
  generalize nO ga (ptL bj aE k l i) ps=N0 at hout |-
  generalize nR fc (ptL bj aE k l i) ps=rows at hrow hset hrl |-
  generalize kL aE k (l.take i)=q at hq hset hks hin |-
  generalize l[i]=x at hrow hset hks hout hin hb
  replace hrow:rows[i]?=some [.str x.name,.int .i64 x.parent,.ms p.1 p.2 0 x.fields.length]:=hrow
  have hr1:(rows.set i [.str (dU (q)),.int .i64 x.parent,.ms p.1 p.2 0 x.fields.length])[i]?=some [.str (dU (q)),.int .i64 x.parent,.ms p.1 p.2 0 x.fields.length]:=by rw[ZP (by omega)]
  have hct:=ja hst p.1 p.2 x.fields (q+1+1) hb.2.1 (by omega)
  repeat' (first|refine W_ ?_|refine bm ?_|((with_reducible apply mC);rfl;kernel_rfl;(repeat (first|exact bD.nil|((with_reducible apply bD.cons);rfl;exact .same _)));exact hG;exact hst;exact bZ _ (by omega) (by omega)))
  refine iL (zg hout R) ?_
  repeat' (first|refine W_ ?_|((with_reducible apply aB);rfl;kernel_rfl;(repeat (first|exact ay.nil|((with_reducible apply ay.cons);rfl)));exact hG;exact hct;exact .cons _ _ _ _ (.nil _);intro y hy;refine bF ?_))
  refine ag (i+1) (by omega) (by omega) (.of _ (cq.envCons rfl (cq.envCons (dl rfl (by rw[hks];rfl)) cq.envNil)) od_ ?_)
  rw[hset]
  simp only[YG]
  have hcl:fc (bj q x) p=[.str (dU (q)),.int .i64 (q+1),.ms p.1 p.2 0 x.fields.length]:=by
    unfold fc bj
    dsimp only
    rw[cj]
  rw[hcl]
  exact acd hin R
 ·obtain rfl:i=l.length:=by omega
  rw[eI,Zw]
  repeat' refine W_ ?_
  exact aD x_ rfl () trivial rfl (.cons _ _ _ _ (.app _ R)) (.refl _) (.tmp _ _ rfl) rfl
theorem sJ (hst:aC G) (s b:Nat) (l:List aH) (ps:List (Nat×Nat)) (hps:ps.length=l.length) (k:Int) (hn:l.length<=1048576/\∀y∈l,aH.small 1048576 y) (hk:0<=k/\k<=100000000000000) :
   CtM Tryz.prog G 132 [.ms s b 0 l.length,.int .i64 k] ((s,b,.row 4 (nR eN l ps))::nO fN l ps) (fun _:Unit=>True) (fun _=>(s,b,.row 4 (nR eN (mkL dQ cg k l) ps))::nO fN (mkL dQ cg k l) ps) (fun _=>.int .i64 (kL cg k l)):=by
 refine aA Tryz.func132 rfl Tryz.ntmps132 rfl rfl rfl fun w0 R gs objsR hG hR=>?_
 obtain rfl:=hR.eq
 clear hR
 obtain⟨hn,hsm⟩:=hn
 repeat' refine W_ ?_
 apply aj (X:=Nat) [0,1000000] (fun x=>[(5,.int .i64 (x:Int)),(1,.int .i64 (kL cg k (l.take x)))]) (fun x=>(s,b,.row 4 (nR eN (ptL dQ cg k l x) ps))::(nO fN (ptL dQ cg k l x) ps++R)) (fun x=>x<=l.length) (fun x=>l.length - x) 0 (Zd _)
 exact kp_;exact nw_
 ·exact .refl _
 intro i hi
 try dsimp only
 have hq:=ba (k:=k) (i:=i) hn (js hsm) hi
 by_cases hlt:i<l.length
 ·obtain⟨p,hp⟩:∃p,ps[i]?=some p:=⟨_,Za (by omega)⟩
  have hpl:i<(ptL dQ cg k l i).length:=by rw[du hi];exact hlt
  have hrow:=aeu eN (ex (mk:=dQ) (nx:=cg) (k:=k) hlt) hp
  have hset:=aeW eN (l:=ptL dQ cg k l i) (x:=dQ (kL cg k (l.take i)) l[i]) hp
  have hout:=aa0 fN (ex (mk:=dQ) (nx:=cg) (k:=k) hlt) hp
  have hin:=agM fN (x:=dQ (kL cg k (l.take i)) l[i]) hpl hp
  rw[gn hlt] at hset hin
  have hks:=cU (nx:=cg) (k:=k) hlt
  have hrl:(nR eN (ptL dQ cg k l i) ps).length=l.length:=by rw[rz _ (by rw[du hi];exact hps),du hi]
  have hb:=hsm _ (Zb hlt)
  generalize (nO fN (ptL dQ cg k l i) ps).eraseIdx i=E at hout hin
  generalize nO fN (ptL dQ cg k l i) ps=N0 at hout |-
  generalize nR eN (ptL dQ cg k l i) ps=rows at hrow hset hrl |-
  generalize kL cg k (l.take i)=q at hq hset hks hin |-
  generalize l[i]=x at hrow hset hks hout hin hb
  replace hrow:rows[i]?=some [.bool x.block,.int .i64 x.params,.int .i64 x.slots,.ms p.1 p.2 0 x.instrs.length]:=hrow
  have hr1:(rows.set i [.bool (decide ((q).tmod 3=0)),.int .i64 x.params,.int .i64 x.slots,.ms p.1 p.2 0 x.instrs.length])[i]?=some [.bool (decide ((q).tmod 3=0)),.int .i64 x.params,.int .i64 x.slots,.ms p.1 p.2 0 x.instrs.length]:=by rw[ZP (by omega)]
  have hct:=p8 hst p.1 p.2 x.instrs (q+1+1+1) hb.1 (by omega)
  repeat' (first|refine W_ ?_|refine bm ?_)
  refine iL (zg hout R) ?_
  repeat' (first|refine W_ ?_|((with_reducible apply aB);rfl;kernel_rfl;(repeat (first|exact ay.nil|((with_reducible apply ay.cons);rfl)));exact hG;exact hct;exact .cons _ _ _ _ (.nil _);intro y hy;refine bF ?_))
  refine ag (i+1) (by omega) (by omega) (.of _ (cq.envCons rfl (cq.envCons (dl rfl (by rw[hks];rfl)) cq.envNil)) od_ ?_)
  rw[hset]
  simp only[YG]
  have hcl:eN (dQ q x) p=[.bool (decide ((q).tmod 3=0)),.int .i64 (q+1),.int .i64 (q+1+1),.ms p.1 p.2 0 x.instrs.length]:=by
    unfold eN dQ
    dsimp only
    rw[cj]
  rw[hcl]
  exact acd hin R
 ·obtain rfl:i=l.length:=by omega
  rw[eI,Zw]
  repeat' refine W_ ?_
  exact aD x_ rfl () trivial rfl (.cons _ _ _ _ (.app _ R)) (.refl _) (.tmp _ _ rfl) rfl
end
def pV (l:List aa) (y:(Nat×Nat)×List (Nat×Nat)):aJ:=(y.1.1,y.1.2,.row 3 (nR fc l y.2))::nO ga l y.2
def ag0 (l:List aH) (y:(Nat×Nat)×List (Nat×Nat)):aJ:=(y.1.1,y.1.2,.row 4 (nR eN l y.2))::nO fN l y.2
def agU (l:List aF) (y:Nat×Nat):aJ:=[(y.1,y.2,.row 4 (l.map (aF.tw 0)))]
def CbP:Type:=((Nat×Nat)×List (Nat×Nat))×((Nat×Nat)×List (Nat×Nat))×(Nat×Nat)
def cbO (x:aI) (y:CbP):aJ:=pV x.classes y.1++(ag0 x.codes y.2.1++agU x.entries y.2.2)
def cbC (x:aI) (y:CbP):List TV:=[.ms y.1.1.1 y.1.1.2 0 x.classes.length,.ms y.2.1.1.1 y.2.1.1.2 0 x.codes.length,.ms y.2.2.1 y.2.2.2 0 x.entries.length,.int .i64 x.main]
def cbI (x:aI) (y:CbP):Prop:=y.1.2.length=x.classes.length/\y.2.1.2.length=x.codes.length
theorem jw (A:aJ) (x z:Nat×Nat×aW) (R:aJ):bW (x::z::(A++R)) (A++(x::z::R)):=.perm (by
 have h1:(A++(x::z::R)).Perm (x::(A++(z::R))):=Z2
 have h2:(A++(z::R)).Perm (z::(A++R)):=Z2
 exact(h1.trans (h2.cons x)).symm)
theorem xI (A B C R:aJ):((A++(B++C))++R).Perm (C++(B++(A++R))):=by
 have h1:(A++(B++C)).Perm (C++(B++A)):=by
   have:(A++(B++C)).Perm ((B++C)++A):=Xr
   refine this.trans ?_
   have h2:((B++C)++A).Perm ((C++B)++A):=(Xr).append_right A
   rw[Zh] at h2
   rw[Zh] at h2 |-
   exact h2
 have h3:=h1.append_right R
 simpa [Zh] using h3
theorem rX (A B C R:aJ):bW (C++(A++(B++R))) (B++(A++(C++R))):=.perm (by
 have h1:(C++(A++B)).Perm (B++(A++C)):=by
   have h:=(xI C A B [])
   simpa using h
 simpa [Zh] using h1.append_right R)
theorem rc (A B C R:aJ):bW (A++(B++(C++R))) (C++(A++(B++R))):=.perm (by
 have h1:(A++(B++C)).Perm (C++(A++B)):=by
   rw[<- Zh]
   exact Xr
 simpa [Zh] using h1.append_right R)
section
variable {G:World->Prop}
theorem qy (hst:aC G) (lo:Nat) (x:aI) (hb:x.small 1048576):CtM Tryz.prog G 36 [.agg (x.tw lo)] [] (cbI x) (cbO x) (fun y=>.agg (cbC x y)):=by
 refine aA Tryz.func36 rfl Tryz.ntmps36 rfl rfl rfl fun w0 R gs objsR hG hR=>?_
 obtain rfl:=hR.inv0
 clear hR
 have c1:=iZ hst lo x.classes hb.1
 have c2:=wG hst lo x.codes hb.2.1
 have c3:=tU hst lo x.entries hb.2.2
 unfold aI.tw
 repeat' (first|refine W_ ?_|refine aN ?_|(refine am ?_;intro ss bb)|refine ac ?_|((with_reducible apply aB);rfl;kernel_rfl;(repeat (first|exact ay.nil|((with_reducible apply ay.cons);rfl)));exact hG;(first|exact c1|exact c2|exact c3);exact .nil _;intro y hy;refine cT (jw _ _ _ _) ?_))
 rename_i yc hyc yd hyd
 refine aD (t1:=.agg [.ms yc.1.1 yc.1.2 0 x.classes.length,.ms yd.1.1 yd.1.2 0 x.codes.length,.ms y.1 y.2 0 x.entries.length,.int .i64 x.main]) x_ rfl (yc,yd,y) ⟨hyc,hyd⟩ rfl (.app _ R) (.drop (.drop (.perm (xI _ _ _ R)))) (.cell _ _ _ _ _ rfl mm_ (by kernel_rfl) (by kernel_rfl) (by kernel_rfl)) rfl
def cV (k:Int) (x:aI):aI:=⟨mkL bj aE k x.classes,mkL dQ cg (kL aE k x.classes) x.codes,mkL eZ bP (kL cg (kL aE k x.classes) x.codes) x.entries,x.main⟩
def bs (k:Int) (x:aI):Int:=kL bP (kL cg (kL aE k x.classes) x.codes) x.entries
theorem iw {x:aI} (hb:x.small 1048576) (k:Int):k<=bs k x/\bs k x<=k+6000000000000:=by
 have h1:=ba (k:=k) (i:=x.classes.length) hb.1.1 (cF hb.1.2) (Zf _)
 have h2:=ba (k:=kL aE k x.classes) (i:=x.codes.length) hb.2.1.1 (js hb.2.1.2) (Zf _)
 have h3:=ba (k:=kL cg (kL aE k x.classes) x.codes) (i:=x.entries.length) hb.2.2.1 (jE x.entries) (Zf _)
 rw[Zw] at h1 h2 h3
 unfold bs
 omega
theorem nl (hst:aC G) (x:aI) (y:CbP) (hy:cbI x y) (hb:x.small 1048576) (k:Int) (hk:0<=k/\k<=50000000000000) :
   CtM Tryz.prog G 51 [.agg (cbC x y),.int .i64 k] (cbO x y) (fun _:Unit=>True) (fun _=>cbO (cV k x) y) (fun _=>.int .i64 (bs k x)):=by
 refine aA Tryz.func51 rfl Tryz.ntmps51 rfl rfl rfl fun w0 R gs objsR hG hR=>?_
 obtain rfl:=hR.eq
 clear hR
 have h1:=ba (k:=k) (i:=x.classes.length) hb.1.1 (cF hb.1.2) (Zf _)
 have h2:=ba (k:=kL aE k x.classes) (i:=x.codes.length) hb.2.1.1 (js hb.2.1.2) (Zf _)
 rw[Zw] at h1 h2
 have c1:=gL hst y.1.1.1 y.1.1.2 x.classes y.1.2 hy.1 k hb.1 (by omega)
 have c2:=sJ hst y.2.1.1.1 y.2.1.1.2 x.codes y.2.1.2 hy.2 (kL aE k x.classes) hb.2.1 (by omega)
 have c3:=p9 hst y.2.2.1 y.2.2.2 x.entries (kL cg (kL aE k x.classes) x.codes) hb.2.2.1 (by omega)
 have e0:cbO x y++R=pV x.classes y.1++(ag0 x.codes y.2.1++(agU x.entries y.2.2++R)):=by unfold cbO;simp[Zh]
 have e1:cbO (cV k x) y++R=pV (cV k x).classes y.1++(ag0 (cV k x).codes y.2.1++(agU (cV k x).entries y.2.2++R)):=by unfold cbO;simp[Zh]
 rw[e0]
 unfold cbC
 repeat' (first|refine W_ ?_|refine aN ?_|((with_reducible apply aB);rfl;kernel_rfl;(repeat (first|exact ay.nil|((with_reducible apply ay.cons);rfl)));exact hG;exact c1;exact .app _ _;intro z hz;refine cT (sA _ _ _) ?_)|((with_reducible apply aB);rfl;kernel_rfl;(repeat (first|exact ay.nil|((with_reducible apply ay.cons);rfl)));exact hG;exact c2;exact .app _ _;intro z hz;refine cT (rX _ _ _ _) ?_)|((with_reducible apply aB);rfl;kernel_rfl;(repeat (first|exact ay.nil|((with_reducible apply ay.cons);rfl)));exact hG;exact c3;exact .app _ _;intro z hz))
 refine aD x_ rfl () trivial rfl (.app _ R) ?_ (.tmp _ _ rfl) rfl
 rw[e1]
 exact rc _ _ _ R
end
def rZ (objs:aJ) (l l':List TV):Prop:=l'.length=l.length/\∀(j:Nat) (t t':TV),l[j]?=some t->l'[j]?=some t'->bG objs t t'
theorem rZ.nil {objs:aJ}:rZ objs [] []:=⟨rfl,by simp⟩
theorem rZ.cons {objs:aJ} {t t':TV} {l l':List TV} (h:bG objs t t') (hr:rZ objs l l'):rZ objs (t::l) (t'::l'):=⟨by simp[hr.1],fun j u u' h1 h2=>by
 cases j with
 | zero=>simp at h1 h2;subst h1;subst h2;exact h
 | succ j=>exact hr.2 j u u' (by simpa using h1) (by simpa using h2)⟩
theorem rZ.append {objs:aJ} {a a' b b':List TV} (h:rZ objs a a') (k:rZ objs b b'):rZ objs (a++b) (a'++b'):=⟨by simp[h.1,k.1],fun j u u' h1 h2=>by
 by_cases hj:j<a.length
 ·rw[Zv hj] at h1
  rw[Zv (by rw[h.1];exact hj)] at h2
  exact h.2 j u u' h1 h2
 ·rw[Zr (by omega)] at h1
  rw[Zr (by rw[h.1];omega)] at h2
  rw[h.1] at h2
  exact k.2 _ u u' h1 h2⟩
theorem sN {α:Type} (mk:α->Nat×Nat->List TV) {l:List α} {ps:List (Nat×Nat)} {i:Nat} (h:i<l.length) (hp:ps.length=i) (p:Nat×Nat):nR mk (l.take i) ps++[mk l[i] p]=nR mk (l.take (i+1)) (ps++[p]):=by
 unfold nR
 rw[dV h,Yz (by rw[Zu];omega)];rfl
section
variable {G:World->Prop}
theorem jd (hst:aC G) (lo:Nat) (l:List aa) (hb:l.length<=1048576/\∀y∈l,aa.small 1048576 y):CtM Tryz.prog G 227 [.sl lo 3 (l.map (aa.tw lo))] [] (fun y:(Nat×Nat)×List (Nat×Nat)=>y.2.length=l.length) (fun y=>(y.1.1,y.1.2,.row 3 (nR fc l y.2))::nO ga l y.2) (fun y=>.ms y.1.1 y.1.2 0 l.length):=by
 refine aA Tryz.func227 rfl Tryz.ntmps227 rfl rfl rfl fun w0 R gs objsR hG hR=>?_
 obtain rfl:=hR.inv0
 clear hR
 have hlen:=aa.len lo l
 have hl1:=hb.1
 repeat' (first|refine W_ ?_|(refine jZ ?_;intro ss bb))
 generalize ss=so;generalize bb=bo
 apply aj (X:=Nat×Nat×List (Nat×Nat)) [7,8,1000000] (fun x=>[(9,.int .i64 (x.1:Int)),(3,.ms so x.2.1 0 x.1)]) (fun x=>(so,x.2.1,.row 3 (nR fc (l.take x.1) x.2.2))::(nO ga (l.take x.1) x.2.2++R)) (fun x=>x.1<=l.length/\x.2.2.length=x.1) (fun x=>l.length - x.1) (0,bo,[]) ⟨Zd _,rfl⟩
 exact kp_;exact nw_
 ·exact .refl _
 rintro ⟨i,bo,ps⟩ ⟨hi,hps⟩
 dsimp only at hi hps |-
 by_cases hlt:i<l.length
 ·have hrs:=fun p=>sN fc hlt hps p
  have hos:=fun p=>lX ga hlt hps p
  have hra:(l.map (aa.tw lo))[i]?=some (l[i].tw lo):=aK hlt
  have hrl:(nR fc (l.take i) ps).length=i:=by rw[rz _ (by rw[Zu];omega),Zu];omega
  have hbi:=hb.2 _ (Zb hlt)
  generalize l[i]=x at hrs hos hra hbi
  rw[show x.tw lo=[.str x.name,.int .i64 x.parent,.sl lo 1 (bQ x.fields)] from rfl] at hra
  have hsl:=ch x.fields
  have hf:=hbi.2.1
  generalize nO ga (l.take i) ps=T at hos |-
  repeat' (first|refine W_ ?_|(refine am ?_;intro ss bb)|refine ac ?_|((with_reducible apply ni (n:=0));rfl;rfl;kernel_rfl;kernel_rfl;rfl;kernel_rfl;rfl;rfl;rfl;rfl;intro ss bb)|refine cK ?_|((with_reducible apply ee);rfl;rfl;rfl;kernel_rfl;(repeat (first|with_reducible exact mh|with_reducible refine mt ?_));(first|with_reducible assumption|exact aw _|exact ae _|exact av _|exact Ze _|assumption|rfl);omega;(intro bq;(repeat (first|with_reducible exact Upd.head _|with_reducible apply Upd.tail)));intro bb)|((with_reducible apply bT);rfl;rfl;rfl;kernel_rfl;(repeat (first|with_reducible exact mh|with_reducible refine mt ?_));exact hrl;(first|(show List.length _=1;rfl)|(show List.length _=2;rfl)|(show List.length _=0;rfl)|(show List.length _=3;rfl)|(first|with_reducible assumption|exact aw _|exact ae _|exact av _|exact Ze _|assumption|rfl));omega;exact hrs (_,_);(intro bq;(repeat (first|with_reducible exact Upd.head _|with_reducible apply Upd.tail)));intro bb))
  rename_i s5 b5 _ bx
  generalize ss=sx
  refine wW (objs':=(sx,bx,.row 1 (bQ x.fields))::(so,bb,.row 3 (nR fc (l.take (i+1)) (ps++[(sx,bx)])))::(T++R)) pk_ ?_
  refine ag (i+1,bb,ps++[(sx,bx)]) ⟨by dsimp only;omega,by dsimp only;simp[hps]⟩ (by dsimp only;omega) (.of _ nw_ od_ ?_)
  dsimp only
  rw[hos (sx,bx)]
  exact kO _ _ T R
 ·obtain rfl:i=l.length:=by omega
  rw[Zc (Zf _)]
  repeat' refine W_ ?_
  exact aD x_ rfl ((so,bo),ps) hps rfl (.cons _ _ _ _ (.app _ R)) (.refl _) (.tmp _ _ rfl) rfl
end
theorem sg {α β γ:Type} {f:α->β->γ} {l:List α} {ps:List β} {z:γ} (h:z∈List.zipWith f l ps):∃x p,f x p=z/\∀{δ:Type} (g:α->β->δ),g x p∈List.zipWith g l ps:=by
 induction l generalizing ps with
 | nil=>simp at h
 | cons a l ih =>
   cases ps with
   | nil=>simp at h
   | cons q ps =>
     rw[YP,ZW] at h
     rcases h with rfl|h
     ·exact⟨a,q,rfl,fun g=>by rw[YP];exact Zi⟩
     ·obtain⟨x,p,h1,h2⟩:=ih h
      exact⟨x,p,h1,fun g=>by rw[YP];exact Zg _ (h2 g)⟩
theorem iz {α:Type} {mk:α->Nat×Nat->List TV} {ob:α->aW} {m s b n:Nat} (hmk:∀x p objs,(p.1,p.2,ob x)∈objs->∀t∈mk x p,dL objs t) (hob:∀x objs,cz objs (ob x)) (l:List α) (ps:List (Nat×Nat)) :
   (∀s' b' o,(s',b',o)∈(s,b,aW.row m (nR mk l ps))::nO ob l ps->cz ((s,b,aW.row m (nR mk l ps))::nO ob l ps) o)/\dL ((s,b,aW.row m (nR mk l ps))::nO ob l ps) (.ms s b 0 n):=by
 refine⟨fun s' b' o h=>?_,.ms _ _ _ _ _ _ Zi⟩
 rcases List.mem_cons.1 h with h|h
 ·simp only[Zt] at h
  obtain⟨_,_,rfl⟩:=h
  intro t ht
  obtain⟨r,hr,htr⟩:=List.mem_flatten.1 ht
  obtain⟨x,p,rfl,hg⟩:=sg hr
  exact hmk x p _ (Zg _ (hg fun x p=>(p.1,p.2,ob x))) t htr
 ·obtain⟨x,p,he,_⟩:=sg h
  simp only[Zt] at he
  obtain⟨_,_,rfl⟩:=he
  exact hob x _
theorem hH (x:aa) (p:Nat×Nat) (objs:aJ) (h:(p.1,p.2,ga x)∈objs):∀t∈fc x p,dL objs t:=fun t ht=>by
 simp only[fc,ZW,ZO,or_false] at ht
 rcases ht with rfl|rfl|rfl
 ·exact .flat _ rfl
 ·exact .flat _ rfl
 ·exact .ms _ _ _ _ _ _ h
theorem ip (x:aa) (objs:aJ):cz objs (ga x):=fD (uU _)
theorem zw (a b z:Nat×Nat×aW) (T R:aJ):bW (a::b::((T++[z])++R)) (z::a::b::(T++R)):=.perm (by
 have h:((T++[z])++R).Perm (z::(T++R)):=by
   rw[Zh]
   exact Z2
 exact((h.cons b).cons a).trans (((List.Perm.swap z b _).cons a).trans (List.Perm.swap z a _)))
theorem afo (a e z2 z3:Nat×Nat×aW) (C A R:aJ):bW (z2::z3::a::(A++(e::(C++R)))) (z3::a::(A++(e::(C++(z2::R))))):=.perm (by
 have h:((z3::a::A)++(e::C)++z2::R).Perm (z2::((z3::a::A)++(e::C)++R)):=Z2
 simpa using h.symm)
theorem xw (a e:Nat×Nat×aW) (C A R:aJ):((C++((a::A)++[e]))++R).Perm (a::(A++(e::(C++R)))):=by
 rw[Zh,Zh]
 refine(Yi C (a::A) ([e]++R)).trans ?_
 exact List.Perm.append_left (a::A) (Yi C [e] R)
section
variable {G:World->Prop}
theorem nr (hst:aC G) (lo:Nat) (x:aI) (hb:x.small 1048576):CtM Tryz.prog G 153 [.agg (x.tw lo)] [] (cbI x) (cbO x) (fun y=>.agg (cbC x y)):=by
 refine aA Tryz.func153 rfl Tryz.ntmps153 rfl rfl rfl fun w0 R gs objsR hG hR=>?_
 obtain rfl:=hR.inv0
 clear hR
 have c1:=jd hst lo x.classes hb.1
 have n1:=fun(y:(Nat×Nat)×List (Nat×Nat)) (_:y.2.length=x.classes.length)=>iz (m:=3) (s:=y.1.1) (b:=y.1.2) (n:=x.classes.length) hH ip x.classes y.2
 have hel:=aF.len lo x.entries
 have he1:=hb.2.2.1
 unfold aI.tw
 repeat' (first|refine W_ ?_|refine aN ?_|(refine am ?_;intro ss bb)|((with_reducible apply dv (id:=1) 11);kernel_rfl;kernel_rfl;kernel_rfl;rfl;(repeat (first|exact Cut.zero _|apply Cut.succ)))|((with_reducible apply m_q);exact ym_;rfl;exact eh)|((with_reducible apply cr);rfl;(intro p;try dsimp only);(repeat (first|exact TB.nil _|((with_reducible apply TB.cons);rfl;rfl;(first|exact .nil _|exact .put _ _ _ _ _ (.nil _)|exact .skip _ _ _ _ _ (.put _ _ _ _ _ (.nil _))|exact .skip _ _ _ _ _ (.skip _ _ _ _ _ (.put _ _ _ _ _ (.nil _)))|(repeat (first|exact .nil _|apply aY.put|apply aY.skip)));kernel_rfl)));rfl;kernel_rfl;kernel_rfl;exact eh)|((with_reducible apply gW);rfl;rfl;kernel_rfl)|((with_reducible apply tp);(intro p;rfl);rfl;kernel_rfl;kernel_rfl;rfl;kernel_rfl;rfl;rfl;rfl;rfl)|((with_reducible apply lM);(intro p;rfl);(intro p;rfl);rfl;kernel_rfl;(intro p;rfl);(first|with_reducible assumption|exact aw _|exact ae _|exact av _|exact Ze _|assumption|rfl);omega;exact⟨by decide,ah_⟩;rfl;(focus (simp;done)))|((with_reducible apply fJ hG hst c1);rfl;kernel_rfl;(intro p;(repeat (first|exact bD.nil|((with_reducible apply bD.cons);rfl;exact .same _))));exact n1)|(with_reducible refine DM.nil _ _ _ ?_))
 generalize ss=s2;generalize bb=b2
 intro p hp
 simp only[YW] at hp
 obtain⟨_,_,_,hI,_⟩:=hp
 refine aT (objs':=((p 10).a,(p 10).b,.box [.nils,.nils,.nils,.int .i64 0])::((p 3).a,(p 6).b,.row 4 (x.entries.map (aF.tw lo)))::(pV x.classes (Enc.dec (p 2))++((s2,b2,.box [.nils,.nils,.nils,.int .i64 0])::R))) (by rw[show ed _=[_,_,_] from rfl];simp only[ZB,ZM,Zo,Zh,ZD,Zz];rfl) ?_
 dsimp only [Nat.reduceAdd] at hI |-
 generalize (Enc.dec (p 2):(Nat×Nat)×List (Nat×Nat))=yc at hI |-
 generalize Yu.a (p 10)=s3
 generalize Yu.b (p 10)=b3
 generalize Yu.a (p 3)=se
 generalize Yu.b (p 6)=be
 have hcl:=aH.len lo x.codes
 have hc1:=hb.2.1.1
 have hsm:=hb.2.1.2
 repeat' (first|refine W_ ?_|refine ac ?_)
 refine fS 1 4 (by decide) rfl fun sc=>?_
 obtain⟨RR,hRR⟩:∃RR:aJ,RR=((se,be,.row 4 (x.entries.map (aF.tw 0)))::(pV x.classes yc++((s2,b2,aW.box [.nils,.nils,.nils,.int .i64 0])::R))):=⟨_,rfl⟩
 refine aV (objs':=(s3,b3,.box [.ms yc.1.1 yc.1.2 0 x.classes.length,.ms sc 0 0 0,.ms se be 0 x.entries.length,.int .i64 x.main])::(sc,0,.row 4 [])::RR) (by rw[hRR];exact .refl _) ?_
 apply aj (X:=Nat×Nat×List (Nat×Nat)) [2,3,17,18,1000000] (fun y=>[(19,.int .i64 (y.1:Int))])
   (fun y=>(s3,b3,.box [.ms yc.1.1 yc.1.2 0 x.classes.length,.ms sc y.2.1 0 y.1,.ms se be 0 x.entries.length,.int .i64 x.main])::(sc,y.2.1,.row 4 (nR eN (x.codes.take y.1) y.2.2))::(nO fN (x.codes.take y.1) y.2.2++RR))
   (fun y=>y.1<=x.codes.length/\y.2.2.length=y.1) (fun y=>x.codes.length - y.1) (0,0,[]) ⟨Zd _,rfl⟩
 exact kp_;exact nw_
 ·exact .refl _
 rintro ⟨i,bc,ps⟩ ⟨hi,hps⟩
 dsimp only at hi hps |-
 by_cases hlt:i<x.codes.length
 ·have hrs:=fun p=>sN eN hlt hps p
  have hos:=fun p=>lX fN hlt hps p
  have hra:(x.codes.map (aH.tw lo))[i]?=some (x.codes[i].tw lo):=aK hlt
  have hrl:(nR eN (x.codes.take i) ps).length=i:=by rw[rz _ (by rw[Zu];omega),Zu];omega
  have hbi:=hsm _ (Zb hlt)
  generalize x.codes[i]=c at hrs hos hra hbi
  have hil:c.instrs.length<=1048576:=hbi.1
  rw[show c.tw lo=[.bool c.block,.int .i64 c.params,.int .i64 c.slots,.sl lo 4 (c.instrs.map (ak.tw lo))] from rfl] at hra
  generalize nO fN (x.codes.take i) ps=T at hos |-
  repeat' (first|refine W_ ?_|(refine am ?_;intro ss bb)|refine ac ?_|((with_reducible apply ni (n:=0));rfl;rfl;kernel_rfl;kernel_rfl;rfl;kernel_rfl;rfl;rfl;rfl;rfl;intro ss bb)|refine cK ?_|((with_reducible apply ee);rfl;rfl;rfl;kernel_rfl;(repeat (first|with_reducible exact mh|with_reducible refine mt ?_));(first|with_reducible assumption|exact aw _|exact ae _|exact av _|exact Ze _|assumption|rfl);omega;(intro bq;(repeat (first|with_reducible exact Upd.head _|with_reducible apply Upd.tail)));intro bb)|((with_reducible apply bT);rfl;rfl;rfl;kernel_rfl;(repeat (first|with_reducible exact mh|with_reducible refine mt ?_));exact hrl;(first|(show List.length _=1;rfl)|(show List.length _=2;rfl)|(show List.length _=0;rfl)|(show List.length _=3;rfl)|(first|with_reducible assumption|exact aw _|exact ae _|exact av _|exact Ze _|assumption|rfl));omega;exact hrs (_,_);(intro bq;(repeat (first|with_reducible exact Upd.head _|with_reducible apply Upd.tail)));intro bb))
  rename_i s5 b5 _ bx
  generalize ss=sx
  refine wW (objs':=(sx,bx,.row 4 (c.instrs.map (ak.tw 0)))::(s3,b3,.box [.ms yc.1.1 yc.1.2 0 x.classes.length,.ms sc bb 0 (i+1),.ms se be 0 x.entries.length,.int .i64 x.main])::(sc,bb,.row 4 (nR eN (x.codes.take (i+1)) (ps++[(sx,bx)])))::(T++RR)) pk_ ?_
  refine ag (i+1,bb,ps++[(sx,bx)]) ⟨by dsimp only;omega,by dsimp only;simp[hps]⟩ (by dsimp only;omega) (.of _ nw_ od_ ?_)
  dsimp only
  rw[hos (sx,bx)]
  exact zw _ _ _ T RR
 ·obtain rfl:i=x.codes.length:=by omega
  rw[Zc (Zf _),hRR]
  refine aV (afo _ _ _ _ _ _ _) ?_
  repeat' (first|refine W_ ?_|refine ac ?_)
  exact aD (t1:=.agg [.ms yc.1.1 yc.1.2 0 x.classes.length,.ms sc bc 0 x.codes.length,.ms se be 0 x.entries.length,.int .i64 x.main]) x_ rfl (yc,((sc,bc),ps),(se,be)) ⟨hI,hps⟩ rfl (.app _ R) (.drop (.drop (.perm (xw _ _ _ _ R)))) (.cell _ _ _ _ _ rfl mm_ (by kernel_rfl) (by kernel_rfl) (by kernel_rfl)) rfl
end
section
variable {G:World->Prop}
theorem gK (hst:aC G) (lo:Nat) (l:List aa) (hb:l.length<=1048576/\∀y∈l,aa.small 1048576 y):CtM Tryz.prog G 219 [.sl lo 3 (l.map (aa.tw lo))] [] (fun y:(Nat×Nat)×List (Nat×Nat)=>y.2.length=l.length) (fun y=>(y.1.1,y.1.2,.row 3 (nR fc l y.2))::nO ga l y.2) (fun y=>.ms y.1.1 y.1.2 0 l.length):=by
 refine aA Tryz.func219 rfl Tryz.ntmps219 rfl rfl rfl fun w0 R gs objsR hG hR=>?_
 obtain rfl:=hR.inv0
 clear hR
 have hlen:=aa.len lo l
 have hl1:=hb.1
 repeat' (first|refine W_ ?_|(refine jZ ?_;intro ss bb))
 generalize ss=so;generalize bb=bo
 apply aj (X:=Nat×Nat×List (Nat×Nat)) [0,1000000] (fun x=>[(4,.int .i64 (x.1:Int)),(3,.ms so x.2.1 0 x.1)]) (fun x=>(so,x.2.1,.row 3 (nR fc (l.take x.1) x.2.2))::(nO ga (l.take x.1) x.2.2++R)) (fun x=>x.1<=l.length/\x.2.2.length=x.1) (fun x=>l.length - x.1) (0,bo,[]) ⟨Zd _,rfl⟩
 exact kp_;exact nw_
 ·exact .refl _
 rintro ⟨i,bo,ps⟩ ⟨hi,hps⟩
 dsimp only at hi hps |-
 by_cases hlt:i<l.length
 ·have hrs:=fun p=>sN fc hlt hps p
  have hos:=fun p=>lX ga hlt hps p
  have hra:(l.map (aa.tw lo))[i]?=some (l[i].tw lo):=aK hlt
  have hrl:(nR fc (l.take i) ps).length=i:=by rw[rz _ (by rw[Zu];omega),Zu];omega
  have hbi:=hb.2 _ (Zb hlt)
  generalize l[i]=x at hrs hos hra hbi
  rw[show x.tw lo=[.str x.name,.int .i64 x.parent,.sl lo 1 (bQ x.fields)] from rfl] at hra
  have hsl:=ch x.fields
  have hf:=hbi.2.1
  generalize nO ga (l.take i) ps=T at hos |-
  repeat' (first|refine W_ ?_|((with_reducible apply dv (id:=5) 20);kernel_rfl;kernel_rfl;kernel_rfl;rfl;(repeat (first|exact Cut.zero _|apply Cut.succ)))|((with_reducible apply m_q);exact ym_;rfl;exact eh)|((with_reducible apply cr);rfl;(intro p;try dsimp only);(repeat (first|exact TB.nil _|((with_reducible apply TB.cons);rfl;rfl;(first|exact .nil _|exact .put _ _ _ _ _ (.nil _)|exact .skip _ _ _ _ _ (.put _ _ _ _ _ (.nil _))|exact .skip _ _ _ _ _ (.skip _ _ _ _ _ (.put _ _ _ _ _ (.nil _)))|(repeat (first|exact .nil _|apply aY.put|apply aY.skip)));kernel_rfl)));rfl;kernel_rfl;kernel_rfl;exact eh)|((with_reducible apply lM);(intro p;rfl);(intro p;rfl);rfl;kernel_rfl;(intro p;rfl);(first|with_reducible assumption|exact aw _|exact ae _|exact av _|exact Ze _|assumption|rfl);omega;exact⟨by decide,ah_⟩;rfl;(focus (simp;done)))|((with_reducible apply tp (n:=0));(intro p;rfl);rfl;kernel_rfl;kernel_rfl;rfl;kernel_rfl;rfl;rfl;rfl;rfl)|((with_reducible apply i5);(intro p;rfl);rfl;kernel_rfl;kernel_rfl;rfl;kernel_rfl;rfl;(intro p;rfl);rfl;(intro p;rfl);exact eh)|(with_reducible refine DM.nil _ _ _ ?_))
  intro p hp
  refine aT (objs':=((p 11).a,(p 17).b,.row 1 (bQ x.fields))::(so,bo,.row 3 (nR fc (l.take i) ps))::(T++R)) (by rw[show ed _=[_] from rfl];simp only[ZB,ZM,Zo,Zh,ZD,Zz];(try rfl)) ?_
  dsimp only [Nat.reduceAdd]
  generalize Yu.a (p 11)=sx
  generalize Yu.b (p 17)=bx
  repeat' (first|refine W_ ?_|((with_reducible apply bT);rfl;rfl;rfl;kernel_rfl;(repeat (first|with_reducible exact mh|with_reducible refine mt ?_));exact hrl;(first|(show List.length _=1;rfl)|(show List.length _=2;rfl)|(show List.length _=0;rfl)|(show List.length _=3;rfl)|(first|with_reducible assumption|exact aw _|exact ae _|exact av _|exact Ze _|assumption|rfl));omega;exact hrs (_,_);(intro bq;(repeat (first|with_reducible exact Upd.head _|with_reducible apply Upd.tail)));intro bb))
  refine ag (i+1,bb,ps++[(sx,bx)]) ⟨by dsimp only;omega,by dsimp only;simp[hps]⟩ (by dsimp only;omega) (.of _ nw_ od_ ?_)
  dsimp only
  rw[hos (sx,bx)]
  exact kO _ _ T R
 ·obtain rfl:i=l.length:=by omega
  rw[Zc (Zf _)]
  repeat' refine W_ ?_
  exact aD x_ rfl ((so,bo),ps) hps rfl (.cons _ _ _ _ (.app _ R)) (.refl _) (.tmp _ _ rfl) rfl
theorem wR (hst:aC G) (lo:Nat) (x:aH) (hb:x.small 1048576):CtM Tryz.prog G 220 [.agg [.bool x.block,.int .i64 x.params,.int .i64 x.slots,.sl lo 4 (x.instrs.map (ak.tw lo))]] [] (fun _:Nat×Nat=>True) (fun y=>[(y.1,y.2,fN x)]) (fun y=>.agg (eN x y)):=by
 refine aA Tryz.func220 rfl Tryz.ntmps220 rfl rfl rfl fun w0 R gs objsR hG hR=>?_
 obtain rfl:=hR.inv0
 clear hR
 have hil:x.instrs.length<=1048576:=hb.1
 repeat' (first|refine W_ ?_|refine aN ?_|(refine am ?_;intro ss bb)|((with_reducible apply dv (id:=1) 11);kernel_rfl;kernel_rfl;kernel_rfl;rfl;(repeat (first|exact Cut.zero _|apply Cut.succ)))|((with_reducible apply m_q);exact ym_;rfl;exact eh)|((with_reducible apply cr);rfl;(intro p;try dsimp only);(repeat (first|exact TB.nil _|((with_reducible apply TB.cons);rfl;rfl;(first|exact .nil _|exact .put _ _ _ _ _ (.nil _)|exact .skip _ _ _ _ _ (.put _ _ _ _ _ (.nil _))|exact .skip _ _ _ _ _ (.skip _ _ _ _ _ (.put _ _ _ _ _ (.nil _)))|(repeat (first|exact .nil _|apply aY.put|apply aY.skip)));kernel_rfl)));rfl;kernel_rfl;kernel_rfl;exact eh)|((with_reducible apply tp);(intro p;rfl);rfl;kernel_rfl;kernel_rfl;rfl;kernel_rfl;rfl;rfl;rfl;rfl)|((with_reducible apply lM);(intro p;rfl);(intro p;rfl);rfl;kernel_rfl;(intro p;rfl);(first|with_reducible assumption|exact aw _|exact ae _|exact av _|exact Ze _|assumption|rfl);omega;exact⟨by decide,ah_⟩;rfl;(focus (simp;done)))|(with_reducible refine DM.nil _ _ _ ?_))
 generalize ss=s2;generalize bb=b2
 intro p hp
 refine aT (objs':=((p 6).a,(p 9).b,.row 4 (x.instrs.map (ak.tw 0)))::(s2,b2,.box [.bool false,.int .i64 0,.int .i64 0,.nils])::R) (by rw[show ed _=[_] from rfl];simp only[ZB,ZM,Zo,Zh,ZD,Zz];(try rfl)) ?_
 dsimp only [Nat.reduceAdd]
 generalize Yu.a (p 6)=sx
 generalize Yu.b (p 9)=bx
 repeat' (first|refine W_ ?_|refine ac ?_)
 exact aD (t1:=.agg [.bool x.block,.int .i64 x.params,.int .i64 x.slots,.ms sx bx 0 x.instrs.length]) x_ rfl (sx,bx) trivial rfl (.cons _ _ _ _ (.nil R)) pk_ (.cell _ _ _ _ _ rfl mm_ (by kernel_rfl) (by kernel_rfl) (by kernel_rfl)) rfl
end
theorem aa5 (x:aH) (y:Nat×Nat):(∀s b o,(s,b,o)∈[(y.1,y.2,fN x)]->cz [(y.1,y.2,fN x)] o)/\dL [(y.1,y.2,fN x)] (.agg (eN x y)):=by
 refine⟨fun s b o h=>?_,.agg _ fun t ht=>?_⟩
 ·simp only[Zy,Zt] at h
  obtain⟨_,_,rfl⟩:=h
  refine fD fun t ht=>?_
  obtain⟨r,hr,htr⟩:=List.mem_flatten.1 ht
  obtain⟨i,_,rfl⟩:=List.mem_map.1 hr
  simp only[ak.tw,ZW,ZO,or_false] at htr
  rcases htr with rfl|rfl|rfl|rfl <;> rfl
 ·simp only[eN,ZW,ZO,or_false] at ht
  rcases ht with rfl|rfl|rfl|rfl
  ·exact .flat _ rfl
  ·exact .flat _ rfl
  ·exact .flat _ rfl
  ·exact .ms _ _ _ _ _ _ Zi
theorem zS (a b z:Nat×Nat×aW) (T R:aJ):bW (a::b::((T++[z])++R)) (a::z::b::(T++R)):=.perm (by
 have h:((T++[z])++R).Perm (z::(T++R)):=by
   rw[Zh]
   exact Z2
 exact(((h.cons b).trans (List.Perm.swap z b _)).cons a))
theorem aeq (a e z2 z3:Nat×Nat×aW) (C A R:aJ):bW (z2::z3::a::(A++(e::(C++R)))) (a::z3::(A++(e::(C++(z2::R))))):=.perm (by
 have h:((z3::a::A)++(e::C)++z2::R).Perm (z2::((z3::a::A)++(e::C)++R)):=Z2
 exact .trans (by simpa using h.symm) (List.Perm.swap a z3 _))
section
variable {G:World->Prop}
theorem xS (hst:aC G) (f lo:Nat) (x:aI) (hb:x.small 1048576):CtM Tryz.prog G 146 [.cp f (x.tw lo)] [] (cbI x) (cbO x) (fun y=>.agg (cbC x y)):=by
 refine aA Tryz.func146 rfl Tryz.ntmps146 rfl rfl rfl fun w0 R gs objsR hG hR=>?_
 obtain rfl:=hR.inv0
 clear hR
 have c1:=gK hst lo x.classes hb.1
 have n1:=fun(y:(Nat×Nat)×List (Nat×Nat)) (_:y.2.length=x.classes.length)=>iz (m:=3) (s:=y.1.1) (b:=y.1.2) (n:=x.classes.length) hH ip x.classes y.2
 have hel:=aF.len lo x.entries
 have he1:=hb.2.2.1
 unfold aI.tw
 repeat' (first|refine W_ ?_|(refine am ?_;intro ss bb)|((with_reducible apply dv (id:=1) 17);kernel_rfl;kernel_rfl;kernel_rfl;rfl;(repeat (first|exact Cut.zero _|apply Cut.succ)))|((with_reducible apply m_q);exact ym_;rfl;exact eh)|((with_reducible apply cr);rfl;(intro p;try dsimp only);(repeat (first|exact TB.nil _|((with_reducible apply TB.cons);rfl;rfl;(first|exact .nil _|exact .put _ _ _ _ _ (.nil _)|exact .skip _ _ _ _ _ (.put _ _ _ _ _ (.nil _))|exact .skip _ _ _ _ _ (.skip _ _ _ _ _ (.put _ _ _ _ _ (.nil _)))|(repeat (first|exact .nil _|apply aY.put|apply aY.skip)));kernel_rfl)));rfl;kernel_rfl;kernel_rfl;exact eh)|((with_reducible apply gW);rfl;rfl;kernel_rfl)|((with_reducible apply tp);(intro p;rfl);rfl;kernel_rfl;kernel_rfl;rfl;kernel_rfl;rfl;rfl;rfl;rfl)|((with_reducible apply lM);(intro p;rfl);(intro p;rfl);rfl;kernel_rfl;(intro p;rfl);(first|with_reducible assumption|exact aw _|exact ae _|exact av _|exact Ze _|assumption|rfl);omega;exact⟨by decide,ah_⟩;rfl;(focus (simp;done)))|((with_reducible apply fJ hG hst c1);rfl;kernel_rfl;(intro p;(repeat (first|exact bD.nil|((with_reducible apply bD.cons);rfl;exact .same _))));exact n1)|(with_reducible refine DM.nil _ _ _ ?_))
 generalize ss=s2;generalize bb=b2
 intro p hp
 simp only[YW] at hp
 obtain⟨_,_,_,hI,_⟩:=hp
 refine aT (objs':=((p 16).a,(p 16).b,.box [.nils,.nils,.nils,.int .i64 0])::((p 5).a,(p 10).b,.row 4 (x.entries.map (aF.tw lo)))::(pV x.classes (Enc.dec (p 4))++((s2,b2,.box [.nils,.nils,.nils,.int .i64 0])::R))) (by rw[show ed _=[_,_,_] from rfl];simp only[ZB,ZM,Zo,Zh,ZD,Zz];(try rfl)) ?_
 dsimp only [Nat.reduceAdd] at hI |-
 generalize (Enc.dec (p 4):(Nat×Nat)×List (Nat×Nat))=yc at hI |-
 generalize Yu.a (p 16)=s3
 generalize Yu.b (p 16)=b3
 generalize Yu.a (p 5)=se
 generalize Yu.b (p 10)=be
 have hcl:=aH.len lo x.codes
 have hc1:=hb.2.1.1
 have hsm:=hb.2.1.2
 repeat' (first|refine W_ ?_|refine ac ?_)
 refine fS 1 4 (by decide) rfl fun sc=>?_
 obtain⟨RR,hRR⟩:∃RR:aJ,RR=((se,be,.row 4 (x.entries.map (aF.tw 0)))::(pV x.classes yc++((s2,b2,aW.box [.nils,.nils,.nils,.int .i64 0])::R))):=⟨_,rfl⟩
 refine aV (objs':=(sc,0,.row 4 [])::(s3,b3,.box [.ms yc.1.1 yc.1.2 0 x.classes.length,.ms sc 0 0 0,.ms se be 0 x.entries.length,.int .i64 x.main])::RR) (by rw[hRR];exact pk_) ?_
 apply aj (X:=Nat×Nat×List (Nat×Nat)) [0,2,3,1000000] (fun y=>[(4,.int .i64 (y.1:Int))])
   (fun y=>(sc,y.2.1,.row 4 (nR eN (x.codes.take y.1) y.2.2))::(s3,b3,.box [.ms yc.1.1 yc.1.2 0 x.classes.length,.ms sc y.2.1 0 y.1,.ms se be 0 x.entries.length,.int .i64 x.main])::(nO fN (x.codes.take y.1) y.2.2++RR))
   (fun y=>y.1<=x.codes.length/\y.2.2.length=y.1) (fun y=>x.codes.length - y.1) (0,0,[]) ⟨Zd _,rfl⟩
 exact kp_;exact nw_
 ·exact .refl _
 rintro ⟨i,bc,ps⟩ ⟨hi,hps⟩
 dsimp only at hi hps |-
 by_cases hlt:i<x.codes.length
 ·have hrs:=fun p=>sN eN hlt hps p
  have hos:=fun p=>lX fN hlt hps p
  have hra:(x.codes.map (aH.tw lo))[i]?=some (x.codes[i].tw lo):=aK hlt
  have hrl:(nR eN (x.codes.take i) ps).length=i:=by rw[rz _ (by rw[Zu];omega),Zu];omega
  have hbi:=hsm _ (Zb hlt)
  generalize x.codes[i]=c at hrs hos hra hbi
  have hil:c.instrs.length<=1048576:=hbi.1
  rw[show c.tw lo=[.bool c.block,.int .i64 c.params,.int .i64 c.slots,.sl lo 4 (c.instrs.map (ak.tw lo))] from rfl] at hra
  have c2:=wR hst lo c hbi
  have n2:=fun(y:Nat×Nat) (_:True)=>aa5 c y
  generalize nO fN (x.codes.take i) ps=T at hos |-
  repeat' (first|refine W_ ?_|((with_reducible apply eS (id:=5) 13);kernel_rfl;kernel_rfl;kernel_rfl;rfl;(repeat (first|exact Cut.zero _|apply Cut.succ)))|((with_reducible apply m_q);exact ym_;rfl;exact eh)|((with_reducible apply cr);rfl;(intro p;try dsimp only);(repeat (first|exact TB.nil _|((with_reducible apply TB.cons);rfl;rfl;(first|exact .nil _|exact .put _ _ _ _ _ (.nil _)|exact .skip _ _ _ _ _ (.put _ _ _ _ _ (.nil _))|exact .skip _ _ _ _ _ (.skip _ _ _ _ _ (.put _ _ _ _ _ (.nil _)))|(repeat (first|exact .nil _|apply aY.put|apply aY.skip)));kernel_rfl)));rfl;kernel_rfl;kernel_rfl;exact eh)|((with_reducible apply i5);(intro p;rfl);rfl;kernel_rfl;kernel_rfl;rfl;kernel_rfl;rfl;(intro p;rfl);rfl;(intro p;rfl);exact eh)|((with_reducible apply fJ hG hst c2);rfl;kernel_rfl;(intro p;(repeat (first|exact bD.nil|((with_reducible apply bD.cons);rfl;exact .same _))));exact n2)|((with_reducible apply jA);(intro p;rfl);(intro p;rfl);rfl;kernel_rfl;(intro p;rfl);exact hrl;(intro p;show List.length _=1;rfl);omega;exact fun p=>hrs (Enc.dec (p _));exact⟨by decide,by decide⟩;exact oE;rfl;(focus (simp;done)))|(with_reducible refine DM.nil _ _ _ ?_))
  intro p hp
  refine aT (objs':=(sc,(p 11).b,.row 4 (nR eN (x.codes.take (i+1)) (ps++[Enc.dec (p 9)])))::((Enc.dec (p 9):Nat×Nat).1,(Enc.dec (p 9):Nat×Nat).2,fN c)::(s3,b3,.box [.ms yc.1.1 yc.1.2 0 x.classes.length,.ms sc bc 0 i,.ms se be 0 x.entries.length,.int .i64 x.main])::(T++RR)) (by rw[show ed _=[_,_] from rfl];(try simp only[ZB,ZM,Zo,Zh,ZD,Zz]);(try rfl)) ?_
  dsimp only [Nat.reduceAdd] at hp |-
  generalize (Enc.dec (p 9):Nat×Nat)=q
  generalize Yu.b (p 11)=bb
  repeat' (first|refine W_ ?_|refine ac ?_)
  refine ag (i+1,bb,ps++[q]) ⟨by dsimp only;omega,by dsimp only;simp[hps]⟩ (by dsimp only;omega) (.of _ nw_ od_ ?_)
  dsimp only
  rw[hos q]
  exact zS _ _ _ T RR
 ·obtain rfl:i=x.codes.length:=by omega
  rw[Zc (Zf _),hRR]
  refine aV (aeq _ _ _ _ _ _ _) ?_
  repeat' (first|refine W_ ?_|refine ac ?_)
  exact aD (t1:=.agg [.ms yc.1.1 yc.1.2 0 x.classes.length,.ms sc bc 0 x.codes.length,.ms se be 0 x.entries.length,.int .i64 x.main]) x_ rfl (yc,((sc,bc),ps),(se,be)) ⟨hI,hps⟩ rfl (.app _ R) (.drop (.drop (.perm (xw _ _ _ _ R)))) (.cell _ _ _ _ _ rfl mm_ (by kernel_rfl) (by kernel_rfl) (by kernel_rfl)) rfl
end
section
variable {G:World->Prop}
theorem p5 (hst:aC G) (lo:Nat) (l:List ByteArray) (k:Int) (hn:l.length<=1099600000000) (hk:0<=k/\k<=1000000000000000):Ct Tryz.prog G 20 [.sl lo 1 (bQ (mkL cP aZ k l)),.int .i64 k] (fun _=>.int .i64 (kL aZ k l)):=by
 refine au Tryz.func20 rfl Tryz.ntmps20 rfl rfl fun w0 _ hG=>?_
 have hrl:(bQ (mkL cP aZ k l)).length=l.length:=by simp[bQ,cj]
 have hget:=fun i (h:i<l.length)=>gC (mk:=cP) (nx:=aZ) (k:=k) h
 have hgr:∀i (h:i<l.length),(bQ (mkL cP aZ k l))[i]?=some [.str (dU (kL aZ k (l.take i)))]:=fun i h=>by
   simp only[bQ,Zp,hget i h];rfl
 generalize bQ (mkL cP aZ k l)=rows at hrl hgr |-
 repeat' refine W_ ?_
 apply aj (X:=Nat) [0] (fun x=>[(5,.int .i64 (x:Int)),(1,.int .i64 (kL aZ k (l.take x)))]) (fun _=>[]) (fun x=>x<=l.length) (fun x=>l.length - x) 0 (Zd _)
 exact kp_;exact nw_
 ·exact .refl _
 intro i hi
 try dsimp only
 have hq:=ba (k:=k) (i:=i) hn (fq l) hi
 by_cases hlt:i<l.length
 ·have hrow:=hgr i hlt
  have hks:kL aZ k (l.take (i+1))=kL aZ k (l.take i)+1:=cU hlt
  generalize kL aZ k (l.take i)=q at hq hrow hks |-
  have hs0:¬ dU (q)≠dU (q):=fun h=>h rfl
  have hm0:=bZ (G:=G) (q) (by omega) (by omega)
  repeat' (first|refine V_ ?_|refine ai hG hst (hm0) ?_)
  all_goals first
    | exact ag (i+1) (by omega) (by omega) (.of _ (cq.envCons rfl (cq.envCons (dl rfl (by rw[hks])) cq.envNil)) od_ pk_)
    | (exfalso;simp_all;done)
 ·obtain rfl:i=l.length:=by omega
  rw[Zw]
  repeat' refine W_ ?_
  exact r1_
theorem lC (hst:aC G) (lo:Nat) (l:List ByteArray) (k:Int) (hn:l.length<=1048576) (hk:0<=k/\k<=1000000000000000):Ct Tryz.prog G 20 [.sl lo 1 (bQ (mkL cP aZ k l)),.int .i64 k] (fun _=>.int .i64 (kL aZ k l)):=p5 hst lo l k (by omega) hk
theorem tO (hst:aC G) (lo:Nat) (l:List ak) (k:Int) (hn:l.length<=1048576) (hk:0<=k/\k<=1000000000000000):Ct Tryz.prog G 233 [.sl lo 4 ((mkL ep bJ k l).map (ak.tw lo)),.int .i64 k] (fun _=>.int .i64 (kL bJ k l)):=by
 refine au Tryz.func233 rfl Tryz.ntmps233 rfl rfl fun w0 _ hG=>?_
 have hrl:((mkL ep bJ k l).map (ak.tw lo)).length=l.length:=by simp[bQ,cj]
 have hget:=fun i (h:i<l.length)=>gC (mk:=ep) (nx:=bJ) (k:=k) h
 have hgr:∀i (h:i<l.length),((mkL ep bJ k l).map (ak.tw lo))[i]?=some [.int .i64 (kL bJ k (l.take i)),.int .i64 (kL bJ k (l.take i)+1),.int .i64 (kL bJ k (l.take i)+1+1),.str (dU (kL bJ k (l.take i)+1+1+1))]:=fun i h=>by
   simp only[bQ,Zp,hget i h];rfl
 generalize (mkL ep bJ k l).map (ak.tw lo)=rows at hrl hgr |-
 repeat' refine W_ ?_
 apply aj (X:=Nat) [0] (fun x=>[(5,.int .i64 (x:Int)),(1,.int .i64 (kL bJ k (l.take x)))]) (fun _=>[]) (fun x=>x<=l.length) (fun x=>l.length - x) 0 (Zd _)
 exact kp_;exact nw_
 ·exact .refl _
 intro i hi
 try dsimp only
 have hq:=ba (k:=k) (i:=i) hn (jO l) hi
 by_cases hlt:i<l.length
 ·have hrow:=hgr i hlt
  have hks:kL bJ k (l.take (i+1))=kL bJ k (l.take i)+1+1+1+1:=cU hlt
  generalize kL bJ k (l.take i)=q at hq hrow hks |-
  have hi0:¬ (q)≠(q):=fun h=>h rfl
  have hi1:¬ (q+1)≠(q+1):=fun h=>h rfl
  have hi2:¬ (q+1+1)≠(q+1+1):=fun h=>h rfl
  have hs3:¬ dU (q+1+1+1)≠dU (q+1+1+1):=fun h=>h rfl
  have hm3:=bZ (G:=G) (q+1+1+1) (by omega) (by omega)
  repeat' (first|refine V_ ?_|refine ai hG hst (hm3) ?_)
  all_goals first
    | exact ag (i+1) (by omega) (by omega) (.of _ (cq.envCons rfl (cq.envCons (dl rfl (by rw[hks])) cq.envNil)) od_ pk_)
    | (exfalso;simp_all;done)
 ·obtain rfl:i=l.length:=by omega
  rw[Zw]
  repeat' refine W_ ?_
  exact r1_
theorem ug (hst:aC G) (lo:Nat) (l:List aF) (k:Int) (hn:l.length<=1048576) (hk:0<=k/\k<=1000000000000000):Ct Tryz.prog G 162 [.sl lo 4 ((mkL eZ bP k l).map (aF.tw lo)),.int .i64 k] (fun _=>.int .i64 (kL bP k l)):=by
 refine au Tryz.func162 rfl Tryz.ntmps162 rfl rfl fun w0 _ hG=>?_
 have hrl:((mkL eZ bP k l).map (aF.tw lo)).length=l.length:=by simp[bQ,cj]
 have hget:=fun i (h:i<l.length)=>gC (mk:=eZ) (nx:=bP) (k:=k) h
 have hgr:∀i (h:i<l.length),((mkL eZ bP k l).map (aF.tw lo))[i]?=some [.int .i64 (kL bP k (l.take i)),.bool (decide ((kL bP k (l.take i)+1).tmod 3=0)),.str (dU (kL bP k (l.take i)+1+1)),.int .i64 (kL bP k (l.take i)+1+1+1)]:=fun i h=>by
   simp only[bQ,Zp,hget i h];rfl
 generalize (mkL eZ bP k l).map (aF.tw lo)=rows at hrl hgr |-
 repeat' refine W_ ?_
 apply aj (X:=Nat) [0] (fun x=>[(5,.int .i64 (x:Int)),(1,.int .i64 (kL bP k (l.take x)))]) (fun _=>[]) (fun x=>x<=l.length) (fun x=>l.length - x) 0 (Zd _)
 exact kp_;exact nw_
 ·exact .refl _
 intro i hi
 try dsimp only
 have hq:=ba (k:=k) (i:=i) hn (jE l) hi
 by_cases hlt:i<l.length
 ·have hrow:=hgr i hlt
  have hks:kL bP k (l.take (i+1))=kL bP k (l.take i)+1+1+1+1:=cU hlt
  generalize kL bP k (l.take i)=q at hq hrow hks |-
  have hi0:¬ (q)≠(q):=fun h=>h rfl
  have hb1:(decide ((q+1).tmod 3=0) != decide ((q+1).tmod 3=0))=false:=by simp
  have hs2:¬ dU (q+1+1)≠dU (q+1+1):=fun h=>h rfl
  have hm2:=bZ (G:=G) (q+1+1) (by omega) (by omega)
  have hi3:¬ (q+1+1+1)≠(q+1+1+1):=fun h=>h rfl
  repeat' (first|refine V_ ?_|refine ai hG hst (hm2) ?_|refine c_ (fun hc=>?_) (fun hc=>?_))
  all_goals first
    | exact ag (i+1) (by omega) (by omega) (.of _ (cq.envCons rfl (cq.envCons (dl rfl (by rw[hks])) cq.envNil)) od_ pk_)
    | (exfalso;simp_all;done)
 ·obtain rfl:i=l.length:=by omega
  rw[Zw]
  repeat' refine W_ ?_
  exact r1_
theorem i6 (hst:aC G) (lo:Nat) (l:List aa) (k:Int) (hn:l.length<=1048576/\∀y∈l,aa.small 1048576 y) (hk:0<=k/\k<=100000000000000):Ct Tryz.prog G 160 [.sl lo 3 ((mkL bj aE k l).map (aa.tw lo)),.int .i64 k] (fun _=>.int .i64 (kL aE k l)):=by
 refine au Tryz.func160 rfl Tryz.ntmps160 rfl rfl fun w0 _ hG=>?_
 obtain⟨hn,hsm⟩:=hn
 have hrl:((mkL bj aE k l).map (aa.tw lo)).length=l.length:=by simp[cj]
 have hgr:∀i (h:i<l.length),((mkL bj aE k l).map (aa.tw lo))[i]?=some ((bj (kL aE k (l.take i)) l[i]).tw lo):=fun i h=>by
   simp only[Zp,gC (mk:=bj) (nx:=aE) (k:=k) h];rfl
 generalize (mkL bj aE k l).map (aa.tw lo)=rows at hrl hgr |-
 repeat' refine W_ ?_
 apply aj (X:=Nat) [0] (fun x=>[(5,.int .i64 (x:Int)),(1,.int .i64 (kL aE k (l.take x)))]) (fun _=>[]) (fun x=>x<=l.length) (fun x=>l.length - x) 0 (Zd _)
 exact kp_;exact nw_
 ·exact .refl _
 intro i hi
 try dsimp only
 have hq:=ba (k:=k) (i:=i) hn (cF hsm) hi
 by_cases hlt:i<l.length
 ·have hrow:=hgr i hlt
  have hks:=cU (nx:=aE) (k:=k) hlt
  have hb:=hsm _ (Zb hlt)
  generalize kL aE k (l.take i)=q at hq hrow hks |-
  generalize l[i]=x at hrow hks hb
  replace hrow:rows[i]?=some [.str (dU (q)),.int .i64 (q+1),.sl lo 1 (bQ (mkL cP aZ (q+1+1) x.fields))]:=hrow
  have hin:=lC hst lo x.fields (q+1+1) hb.2.1 (by omega)
  have hinr:=io (nx:=aZ) (l:=x.fields) (k:=q+1+1) (fq _)
  have hks2:kL aE k (l.take (i+1))=kL aZ (q+1+1) x.fields:=hks
  have hs0:¬ dU (q)≠dU (q):=fun h=>h rfl
  have hm0:=bZ (G:=G) (q) (by omega) (by omega)
  have hi1:¬ (q+1)≠(q+1):=fun h=>h rfl
  repeat' (first|refine V_ ?_|refine ad hG hst (hin) ?_|refine ai hG hst (hm0) ?_)
  all_goals first
    | exact ag (i+1) (by omega) (by omega) (.of _ (cq.envCons rfl (cq.envCons (dl rfl (by rw[hks2])) cq.envNil)) od_ pk_)
    | (exfalso;simp_all;done)
    | (exfalso;omega)
 ·obtain rfl:i=l.length:=by omega
  rw[Zw]
  repeat' refine W_ ?_
  exact r1_
theorem vW (hst:aC G) (lo:Nat) (l:List aH) (k:Int) (hn:l.length<=1048576/\∀y∈l,aH.small 1048576 y) (hk:0<=k/\k<=100000000000000):Ct Tryz.prog G 161 [.sl lo 4 ((mkL dQ cg k l).map (aH.tw lo)),.int .i64 k] (fun _=>.int .i64 (kL cg k l)):=by
 refine au Tryz.func161 rfl Tryz.ntmps161 rfl rfl fun w0 _ hG=>?_
 obtain⟨hn,hsm⟩:=hn
 have hrl:((mkL dQ cg k l).map (aH.tw lo)).length=l.length:=by simp[cj]
 have hgr:∀i (h:i<l.length),((mkL dQ cg k l).map (aH.tw lo))[i]?=some ((dQ (kL cg k (l.take i)) l[i]).tw lo):=fun i h=>by
   simp only[Zp,gC (mk:=dQ) (nx:=cg) (k:=k) h];rfl
 generalize (mkL dQ cg k l).map (aH.tw lo)=rows at hrl hgr |-
 repeat' refine W_ ?_
 apply aj (X:=Nat) [0] (fun x=>[(5,.int .i64 (x:Int)),(1,.int .i64 (kL cg k (l.take x)))]) (fun _=>[]) (fun x=>x<=l.length) (fun x=>l.length - x) 0 (Zd _)
 exact kp_;exact nw_
 ·exact .refl _
 intro i hi
 try dsimp only
 have hq:=ba (k:=k) (i:=i) hn (js hsm) hi
 by_cases hlt:i<l.length
 ·have hrow:=hgr i hlt
  have hks:=cU (nx:=cg) (k:=k) hlt
  have hb:=hsm _ (Zb hlt)
  generalize kL cg k (l.take i)=q at hq hrow hks |-
  generalize l[i]=x at hrow hks hb
  replace hrow:rows[i]?=some [.bool (decide ((q).tmod 3=0)),.int .i64 (q+1),.int .i64 (q+1+1),.sl lo 4 ((mkL ep bJ (q+1+1+1) x.instrs).map (ak.tw lo))]:=hrow
  have hin:=tO hst lo x.instrs (q+1+1+1) hb.1 (by omega)
  have hinr:=io (nx:=bJ) (l:=x.instrs) (k:=q+1+1+1) (jO _)
  have hks2:kL cg k (l.take (i+1))=kL bJ (q+1+1+1) x.instrs:=hks
  have hb0:(decide ((q).tmod 3=0) != decide ((q).tmod 3=0))=false:=by simp
  have hi1:¬ (q+1)≠(q+1):=fun h=>h rfl
  have hi2:¬ (q+1+1)≠(q+1+1):=fun h=>h rfl
  repeat' (first|refine V_ ?_|refine ad hG hst (hin) ?_|refine c_ (fun hc=>?_) (fun hc=>?_))
  all_goals first
    | exact ag (i+1) (by omega) (by omega) (.of _ (cq.envCons rfl (cq.envCons (dl rfl (by rw[hks2])) cq.envNil)) od_ pk_)
    | (exfalso;simp_all;done)
    | (exfalso;omega)
 ·obtain rfl:i=l.length:=by omega
  rw[Zw]
  repeat' refine W_ ?_
  exact r1_
theorem qs (hst:aC G) (lo:Nat) (x:aI) (hb:x.small 1048576) (k:Int) (hk:0<=k/\k<=50000000000000):Ct Tryz.prog G 75 [.agg ((cV k x).tw lo),.int .i64 k] (fun _=>.int .i64 (bs k x)):=by
 refine au Tryz.func75 rfl Tryz.ntmps75 rfl rfl fun w0 _ hG=>?_
 have h1:=ba (k:=k) (i:=x.classes.length) hb.1.1 (cF hb.1.2) (Zf _)
 have h2:=ba (k:=kL aE k x.classes) (i:=x.codes.length) hb.2.1.1 (js hb.2.1.2) (Zf _)
 have h3:=ba (k:=kL cg (kL aE k x.classes) x.codes) (i:=x.entries.length) hb.2.2.1 (jE x.entries) (Zf _)
 rw[Zw] at h1 h2 h3
 have c1:=i6 hst lo x.classes k hb.1 (by omega)
 have c2:=vW hst lo x.codes (kL aE k x.classes) hb.2.1 (by omega)
 have c3:=ug hst lo x.entries (kL cg (kL aE k x.classes) x.codes) hb.2.2.1 (by omega)
 unfold aI.tw cV bs
 dsimp only
 repeat' (first|refine W_ ?_|refine aN ?_|refine ad hG hst (c1) ?_|refine ad hG hst (c2) ?_|refine ad hG hst (c3) ?_)
 exact r1_
end
end Go.Proofs.YtofnnnpahglfdaaGreatDoor
