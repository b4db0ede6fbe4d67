/- Part 7 of the proof: the texts DepP, DepF, SdA, DepG, SdB, SdC. -/
import Derived.Test.YtifcomgnmokimaaGreatDoorRt5
import Derived.Test.YtifcomgnmokimaaGreatDoorRt4
import Derived.Test.YtifcomgnmokimaaGreatDoorRt3
import Derived.Test.YtifcomgnmokimaaGreatDoorRt1
set_option linter.all false
set_option maxHeartbeats 4000000
set_option maxRecDepth 20000
namespace Go.Proofs.YtifcomgnmokimaaGreatDoor
open Go Go.RowKit
def am.eff (i:am):Int×Int :=
 if i.op=9\/i.op=11\/i.op=18 then (1,1)
 else if i.op=13 then (cz i.text.data.toList+1,1)
 else if i.op=14 then (cz i.text.data.toList,1)
 else if i.op=16\/i.op=19\/i.op=21\/i.op=22 then (1,0)
 else if i.op=17 then (1,2)
 else if i.op=24\/i.op=25 then (2,2)
 else if i.op=26 then (2,1)
 else if i.op=20\/i.op=23 then (0,0)
 else (0,1)
def am.labs (i:am):List Int :=
 if i.op=20 then [i.a] else if i.op=21\/i.op=22 then [i.a,i.b] else if i.op=24\/i.op=25\/i.op=26 then [i.b] else []
def am.nexts (i:am) (at_ d:Int):List (Int×Int) :=
 if i.op=19 then []
 else if i.op=20 then [(i.a,d - i.eff.1+i.eff.2)]
 else if i.op=21\/i.op=22 then [(at_+1,d - i.eff.1+i.eff.2),(i.a,d - i.eff.1+i.eff.2),(i.b,d - i.eff.1+i.eff.2+1)]
 else if i.op=24\/i.op=25 then [(at_+1,d - i.eff.1+i.eff.2),(i.b,d - 1)]
 else if i.op=26 then [(at_+1,d - i.eff.1+i.eff.2),(i.b,d)]
 else [(at_+1,d - i.eff.1+i.eff.2)]
theorem oR (k:Int):k=9\/k=11\/k=13\/k=14\/k=16\/k=17\/k=18\/k=19\/k=20\/k=21\/k=22\/k=23\/k=24\/k=25\/k=26\/(¬ k=9/\¬ k=11/\¬ k=13/\¬ k=14/\¬ k=16/\¬ k=17/\¬ k=18/\¬ k=19/\¬ k=20/\¬ k=21/\¬ k=22/\¬ k=23/\¬ k=24/\¬ k=25/\¬ k=26):=by omega
theorem adM (l:List UInt8):di l=decide (0<=cz l):=by
 unfold di cz
 cases l6 l
 ·cases cV l
  ·cases kwL l <;> simp
  ·simp
 ·simp
theorem sF (l:List UInt8):-1<=cz l:=by
 unfold cz
 split
 ·omega
 ·split
  ·omega
  ·split <;> omega
theorem abd {l:List UInt8} {ps:List (List UInt8)} (h:kwL l=some ps):ps.length<=4:=by
 unfold kwL at h
 split at h
 ·split at h
  ·rename_i h2
   simp only[Zq,decide_eq_true_eq] at h2
   cases h;exact h2.2
  ·cases h
 ·cases h
theorem sN (l:List UInt8):cz l<=4:=by
 unfold cz
 split
 ·omega
 ·split
  ·omega
  ·split
   ·rename_i ps h
    have:=abd h
    omega
   ·omega
theorem jK (i:am):-1<=i.eff.1/\i.eff.1<=5/\0<=i.eff.2/\i.eff.2<=2:=by
 have h1:=sF i.text.data.toList
 have h2:=sN i.text.data.toList
 unfold am.eff
 repeat' split
 all_goals (refine⟨?_, ?_, ?_, ?_⟩ <;> simp <;> omega)
def gd (ds:List Int) (p:Int):Int:=ds.getD p.toNat 0
def ago (is:List am) (p:Int):Int:=((is[p.toNat]?).map am.op).getD 0
def ep (n:Nat) (i:am):Bool:=inR i.op 1 26 && (!(decide (i.op=13) || decide (i.op=14)) || decide (0<=cz i.text.data.toList)) && i.labs.all fun l=>inR l 0 ((n:Int) - 1)
def kr (is:List am):Bool:=is.all (ep is.length)
abbrev Dst:=List Int×List Nat
def vK (n:Nat) (ds:List Int) (p d:Int):Bool:=!inR p 0 ((n:Int) - 1) || decide (250<d) || (decide (0<=gd ds p) && !decide (gd ds p=d))
def iJ (n:Nat):List (Int×Int)->Dst->Option Dst
 | [],s=>some s
 | (p,d)::r,(ds,q)=>if vK n ds p d then none else if gd ds p<0 then iJ n r (ds.set p.toNat d,q++[p.toNat]) else iJ n r (ds,q)
def iM (is:List am) (at_:Int) (op l:Int):Bool:=!decide (op=26) && decide (l<=at_) && !decide (ago is l=23)
def mg (is:List am) (i:am) (at_:Nat) (ds:List Int):Option Dst :=
 if gd ds at_<i.eff.1 then none
 else if i.labs.any (iM is at_ i.op) then none
 else iJ is.length (i.nexts at_ (gd ds at_)) (ds,[])
def aaz (is:List am) (at_:Int) (op p:Int):Bool:=decide ((is.length:Int)<=p) || iM is at_ op p
def j6 (is:List am) (at_ op:Int):List (Int×Int)->Dst->Option Dst
 | [],s=>some s
 | (p,d)::r,(ds,q)=>if aaz is at_ op p then none else if gd ds p=-1 then j6 is at_ op r (ds.set p.toNat d,q++[p.toNat]) else if gd ds p=d then j6 is at_ op r (ds,q) else none
def uj (is:List am) (i:am) (at_:Nat) (ds:List Int):Option Dst :=
 if gd ds at_ - i.eff.1<0\/250<gd ds at_ - i.eff.1+i.eff.2 then none
 else j6 is at_ i.op (i.nexts at_ (gd ds at_)) (ds,[])
def nH:List (Int×Int)->Dst->Option Dst
 | [],s=>some s
 | (p,d)::r,(ds,q)=>if gd ds p<0 then nH r (ds.set p.toNat d,q++[p.toNat]) else if gd ds p=d then nH r (ds,q) else none
def okP (n:Nat) (x:Int×Int):Bool:=inR x.1 0 ((n:Int) - 1) && decide (x.2<=250)
theorem xZ (n:Nat):∀(l:List (Int×Int)) (s:Dst),iJ n l s=if l.all (okP n) then nH l s else none
 | [],s=>by simp[iJ,nH]
 | (p,d)::r,(ds,q)=>by
   have ih:=xZ n r
   by_cases hr:inR p 0 ((n:Int) - 1)=true
   ·by_cases hd:d<=250
    ·have hd':¬ 250<d:=by omega
     by_cases hg:gd ds p<0
     ·have hg':¬ 0<=gd ds p:=by omega
      simp only[iJ,vK,nH,okP,YL,hr,hd,hd',hg,hg',ih,decide_true,decide_false,YA,Bool.or_false,Zl,Zn,if_true,YJ,if_false]
     ·have hg':0<=gd ds p:=by omega
      by_cases he:gd ds p=d
      ·have h1:¬ d<0:=he ▸ hg
       have h2:0<=d:=he ▸ hg'
       simp only[iJ,vK,nH,okP,YL,hr,hd,hd',he,h1,h2,ih,decide_true,decide_false,YA,Bool.or_false,Zn,if_true,YJ,if_false]
      ·simp[iJ,vK,nH,okP,hr,hd,hd',hg,hg',he]
       exact(ite_self _).symm
    ·have hd':250<d:=by omega
     simp[iJ,vK,okP,hr,hd,hd']
   ·simp[iJ,vK,okP,hr]
def aeo (ds:List Int):Prop:=∀x∈ds,-1<=x/\x<=250
theorem aeo.gd {ds:List Int} (h:aeo ds) (p:Int):-1<=gd ds p/\gd ds p<=250:=by
 unfold Proofs.YtifcomgnmokimaaGreatDoor.gd
 rw[ZT]
 cases hp:ds[p.toNat]? with
 | none=>simp
 | some x=>exact h x (Zm hp)
theorem aeo.set {ds:List Int} (h:aeo ds) {d:Int} (h0:-1<=d) (h1:d<=250) (p:Nat):aeo (ds.set p d):=fun x hx=>by
 rcases Z7 hx with hx|rfl
 ·exact h x hx
 ·exact⟨h0,h1⟩
theorem xU (is:List am) (at_ op:Int):∀(l:List (Int×Int)) (s:Dst),aeo s.1->(∀x∈l,0<=x.2/\x.2<=250)->j6 is at_ op l s=if l.all (fun x=>!aaz is at_ op x.1) then nH l s else none
 | [],s,_,_=>by simp[j6,nH]
 | (p,d)::r,(ds,q),hI,hl=>by
   have ih:=xU is at_ op r
   have hd:=hl (p,d) (by simp)
   have hl':∀x∈r,0<=x.2/\x.2<=250:=fun x hx=>hl x (by simp[hx])
   have hg:=hI.gd p
   by_cases hb:aaz is at_ op p=true
   ·simp[j6,hb]
   ·by_cases h1:gd ds p=-1
    ·have h2:gd ds p<0:=by omega
     have:=ih (ds.set p.toNat d,q++[p.toNat]) (hI.set (by omega) hd.2 _) hl'
     simp only[j6,nH,YL,hb,h1,if_true,YJ,if_false,Yq,Zn,this,show ((-1:Int)<0) from by omega]
    ·have h2:¬ gd ds p<0:=by simp only at hg;omega
     by_cases he:gd ds p=d
     ·have h3:¬ d<0:=he ▸ h2
      have h4:¬ d=-1:=he ▸ h1
      have:=ih (ds,q) hI hl'
      simp only[j6,nH,YL,hb,he,h3,h4,if_true,YJ,if_false,Yq,Zn,this]
     ·simp[j6,nH,hb,h1,h2,he]
      exact(ite_self _).symm
theorem adt (i:am) (at_:Nat) (g:Int) (h0:0<=g) (h1:g<=250) (h:250<g - i.eff.1+i.eff.2) (hl:∀l:Int,True):∃x∈i.nexts at_ g,250<x.2:=by
 rcases oR i.op with h'|h'|h'|h'|h'|h'|h'|h'|h'|h'|h'|h'|h'|h'|h'|h'
 all_goals first
   | (refine⟨((at_:Int)+1,g - i.eff.1+i.eff.2), ?_,h⟩;simp[am.nexts,h'];done)
   | (refine⟨(i.a,g - i.eff.1+i.eff.2), ?_,h⟩;simp[am.nexts,h'];done)
   | (exfalso;simp[am.eff,h'] at h;omega)
theorem wR (i:am) (at_:Nat) (g:Int) (h0:0<=g) (h1:g<=250) (ht:¬ g<i.eff.1) (h:¬ 250<g - i.eff.1+i.eff.2) (hsel:i.op=14->0<=i.eff.1):∀x∈i.nexts at_ g,0<=x.2/\x.2<=250:=by
 have he:=jK i
 intro x hx
 rcases oR i.op with h'|h'|h'|h'|h'|h'|h'|h'|h'|h'|h'|h'|h'|h'|h'|h'
 all_goals first
     | (simp[am.nexts,h'] at hx;done)
     | skip
 all_goals
   simp[am.nexts,h'] at hx
   try simp[am.eff,h'] at ht h he hsel hx
   first
     | (subst hx;simp;omega)
     | (rcases hx with rfl|rfl <;> simp <;> omega)
     | (rcases hx with rfl|rfl|rfl <;> simp <;> omega)
theorem afG (n:Nat) (l:Int):inR l 0 ((n:Int) - 1)=(decide (0<=l) && !decide ((n:Int)<=l)):=by
 simp only[inR];rw[YF];simp;omega
theorem abN (is:List am) (i:am) (at_:Nat) (g:Int) (h0:0<=g) (h1:g<=250) (ht:¬ g<i.eff.1) (h:¬ 250<g - i.eff.1+i.eff.2) (hlab:(i.labs.all fun l=>inR l 0 ((is.length:Int) - 1))=true) :
   (!i.labs.any (iM is at_ i.op) && (i.nexts at_ g).all (okP is.length))=(i.nexts at_ g).all (fun x=>!aaz is at_ i.op x.1):=by
 have hb1:∀op,iM is at_ op ((at_:Int)+1)=false:=fun op=>by
   simp only[iM]
   rw[show decide ((at_:Int)+1<=at_)=false from decide_eq_false (by omega)];simp
 have hin1:inR ((at_:Int)+1) 0 ((is.length:Int) - 1)=!decide ((is.length:Int)<=(at_:Int)+1):=by
   rw[afG,show decide (0<=(at_:Int)+1)=true from decide_eq_true (by omega)];rfl
 have hl2:∀l∈i.labs,inR l 0 ((is.length:Int) - 1)=true/\decide ((is.length:Int)<=l)=false:=fun l hl=>by
   have:=List.all_eq_true.1 hlab l hl
   refine⟨this, ?_⟩
   simp only[inR,decide_eq_true_eq] at this
   exact decide_eq_false (by omega)
 rcases oR i.op with h'|h'|h'|h'|h'|h'|h'|h'|h'|h'|h'|h'|h'|h'|h'|h'
 all_goals
   simp only[am.labs,am.eff,h'] at hl2 ht h
   simp[am.nexts,am.labs,am.eff,h',okP,aaz,hb1,hin1]
   try simp at hl2 ht h
 all_goals first
   | (intros;omega)
   | grind
theorem ab4 (is:List am) (i:am) (at_:Nat) (ds:List Int) (hI:aeo ds) (hp:ep is.length i=true) (hg:0<=gd ds at_):mg is i at_ ds=uj is i at_ ds:=by
 have hr:=hI.gd at_
 unfold mg uj
 by_cases ht:gd ds at_<i.eff.1
 ·rw[if_pos ht,if_pos (by omega)]
 rw[if_neg ht]
 simp only[ep,Zq] at hp
 obtain⟨⟨hop,hsel⟩,hlab⟩:=hp
 have hsel':i.op=14->0<=i.eff.1:=fun h=>by
   simp[h] at hsel
   simp[am.eff,h];exact hsel
 rw[xZ]
 by_cases h250:250<gd ds at_ - i.eff.1+i.eff.2
 ·rw[if_pos (Or.inr h250)]
  obtain⟨x,hx,hx2⟩:=adt i at_ _ hg hr.2 h250 fun _=>trivial
  have hno:(i.nexts at_ (gd ds at_)).all (okP is.length)=false:=by
    rw[List.all_eq_false]
    exact⟨x,hx,by simp[okP];intro _;omega⟩
  rw[hno];simp
 ·rw[if_neg (c:=gd ds at_ - i.eff.1<0\/250<gd ds at_ - i.eff.1+i.eff.2) (by omega),xU _ _ _ _ _ hI (wR i at_ _ hg hr.2 ht h250 hsel')]
  have key:=abN is i at_ _ hg hr.2 ht h250 hlab
  by_cases hA:i.labs.any (iM is at_ i.op)=true
  ·rw[hA] at key
   rw[if_pos hA,<- key];rfl
  ·rw[if_neg hA]
   rw[YI] at hA
   rw[hA] at key
   rw[<- key];rfl
structure DSt (n:Nat) (ds:List Int) (q:List Nat) (k:Nat):Prop where
 len:ds.length=n
 inv:aeo ds
 ok:∀p∈q,p<n/\0<=gd ds p
 mu:q.length+ds.countP (·<0)<=k
theorem af6 {ds:List Int} {p:Int} (hp:p.toNat<ds.length) (d:Int) (x:Nat):gd (ds.set p.toNat d) (x:Int)=if p.toNat=x then d else gd ds x:=by
 unfold gd
 simp only[ZB,ZT,YW]
 split
 ·rename_i h;subst h;simp[hp]
 ·rfl
theorem qN {ds:List Int} {p:Nat} (hp:p<ds.length):gd ds (p:Int)=ds[p]:=by
 unfold gd;simp[hp]
theorem DSt.push {n:Nat} {ds:List Int} {q:List Nat} {k:Nat} (h:DSt n ds q k) {p d:Int} (hp:inR p 0 ((n:Int) - 1)=true) (h0:0<=d) (h1:d<=250) (hg:gd ds p<0):DSt n (ds.set p.toNat d) (q++[p.toNat]) k:=by
 simp only[inR,decide_eq_true_eq] at hp
 have hl:=h.len
 have hpl:p.toNat<ds.length:=by omega
 refine⟨by simp[hl],h.inv.set (by omega) h1 _,fun x hx=>?_, ?_⟩
 ·rw[af6 hpl]
  rcases List.mem_append.1 hx with hx|hx
  ·refine⟨(h.ok x hx).1, ?_⟩
   split
   ·exact h0
   ·exact(h.ok x hx).2
  ·simp at hx;subst hx
   exact⟨by omega,by rw[if_pos rfl];exact h0⟩
 ·have hn:ds[p.toNat]<0:=by
    have:=qN hpl
    have hpp:((p.toNat:Nat):Int)=p:=by omega
    rw[hpp] at this;omega
  have hc:=List.countP_set (p:=fun x:Int=>decide (x<0)) (l:=ds) (a:=d) hpl
  have hpos:0<ds.countP (fun x:Int=>decide (x<0)):=List.countP_pos_iff.2 ⟨_,Zb hpl,by simpa using hn⟩
  have hm:=h.mu
  simp only[hn,decide_true,if_true,show decide (d<0)=false from decide_eq_false (by omega),YJ,if_false] at hc
  rw[Zh,Xl,hc]
  omega
theorem DSt.pop {n:Nat} {ds:List Int} {p:Nat} {q:List Nat} {k:Nat} (h:DSt n ds (p::q) k):∃j,k=j+1/\DSt n ds q j/\p<n/\0<=gd ds p:=by
 have hm:=h.mu
 rw[Zy] at hm
 exact⟨k - 1,by omega,⟨h.len,h.inv,fun x hx=>h.ok x (by simp[hx]),by omega⟩,h.ok p (by simp)⟩
def tf (is:List am) (step:am->Nat->List Int->Option Dst):Nat->List Int->List Nat->Option (List Int)
 | _,ds,[]=>some ds
 | 0,_,_::_=>none
 | f+1,ds,p::q=>match is[p]? with
   | none=>none
   | some i=>match step i p ds with
     | none=>none
     | some (ds',new)=>tf is step f ds' (q++new)
theorem jQ (is : List am) (step : am -> Nat -> List Int -> Option Dst) (f : Nat) (ds : List Int) {p : Nat} (q : List Nat) (hp : p < is.length) : tf is step (f + 1) ds (p :: q) = match step is[p] p ds with
     | none=>none
     | some (ds',new)=>tf is step f ds' (q++new):=by
 simp only[tf,Za hp]
theorem gZ (i:am) (at_:Nat) (g:Int) (h0:0<=g) (ht:¬ g<i.eff.1) (hsel:i.op=14->0<=i.eff.1):∀x∈i.nexts at_ g,0<=x.2:=by
 have he:=jK i
 intro x hx
 rcases oR i.op with h'|h'|h'|h'|h'|h'|h'|h'|h'|h'|h'|h'|h'|h'|h'|h'
 all_goals first
     | (simp[am.nexts,h'] at hx;done)
     | skip
 all_goals
   simp[am.nexts,h'] at hx
   try simp[am.eff,h'] at ht he hsel hx
   first
     | (subst hx;simp;omega)
     | (rcases hx with rfl|rfl <;> simp <;> omega)
     | (rcases hx with rfl|rfl|rfl <;> simp <;> omega)
theorem jS {n k:Nat}:∀(l:List (Int×Int)) (ds:List Int) (q0 new:List Nat) (s:Dst),(∀x∈l,0<=x.2)->DSt n ds (q0++new) k->iJ n l (ds,new)=some s->DSt n s.1 (q0++s.2) k
 | [],ds,q0,new,s,_,h,e=>by simp only[iJ,Zo] at e;subst e;exact h
 | (p,d)::r,ds,q0,new,s,hl,h,e=>by
   have h0:=hl (p,d) (by simp)
   have hr:∀x∈r,0<=x.2:=fun x hx=>hl x (by simp[hx])
   simp only[iJ] at e
   by_cases hb:vK n ds p d=true
   ·rw[if_pos hb] at e;cases e
   ·rw[if_neg hb] at e
    simp only[vK,Xb,not_or,YI,Y3,decide_eq_false_iff_not] at hb
    by_cases hg:gd ds p<0
    ·rw[if_pos hg] at e
     exact jS r _ q0 _ s hr (by rw[<- Zk];exact h.push hb.1.1 h0 (by omega) hg) e
    ·rw[if_neg hg] at e
     exact jS r _ q0 _ s hr h e
theorem act (is:List am) (hp:kr is=true):∀(f:Nat) (ds:List Int) (q:List Nat),DSt is.length ds q f->tf is (mg is) f ds q=tf is (uj is) f ds q
 | _,_,[],_=>by simp[tf]
 | 0,_,_::_,_=>by simp[tf]
 | f+1,ds,p::q,h=>by
   obtain⟨j,hj,hst,hpl,hg⟩:=h.pop
   obtain rfl:f=j:=by omega
   rw[jQ _ _ _ _ _ hpl,jQ _ _ _ _ _ hpl]
   have hpi:ep is.length is[p]=true:=List.all_eq_true.1 hp _ (Zb _)
   have hse:=ab4 is is[p] p ds h.inv hpi hg
   rw[<- hse]
   cases hs:mg is is[p] p ds with
   | none=>rfl
   | some s =>
     have hsel:is[p].op=14->0<=is[p].eff.1:=fun h14=>by
       simp only[ep,Zq] at hpi
       have:=hpi.1.2
       simp[h14] at this
       simp[am.eff,h14];exact this
     unfold mg at hs
     by_cases ht:gd ds p<is[p].eff.1
     ·rw[if_pos ht] at hs;cases hs
     ·rw[if_neg ht] at hs
      by_cases hA:(is[p].labs.any (iM is p is[p].op))=true
      ·rw[if_pos hA] at hs;cases hs
      ·rw[if_neg hA] at hs
       have hst':=jS _ ds q [] s (gZ _ p _ hg ht hsel) (by rw[Zt];exact hst) hs
       exact act is hp f s.1 (q++s.2) hst'
def cx (is:List am):Option (List Int) :=
 if is.length=0 then none else if kr is then tf is (mg is) is.length (0::List.replicate (is.length - 1) (-1)) [0] else none
theorem od {n:Nat} (hn:1<=n):DSt n (0::List.replicate (n - 1) (-1)) [0] n:=by
 refine⟨by simp;omega,fun x hx=>?_,fun p hp=>?_, ?_⟩
 ·rcases List.mem_cons.1 hx with rfl|hx
  ·omega
  ·rw[Yx hx];omega
 ·simp at hp;subst hp;exact⟨by omega,by simp[gd]⟩
 ·simp[List.countP_replicate];omega
theorem rh {P:Program} {G:World->Prop} {f:FuncId} {s:ByteArray} {n:Int} (h:∀w,G w->Calls P f #[.string s] w fun e w'=>e=.returned (.int .i64 n)/\Below w.heap.size w w'):Ct P G f [.str s] (fun _=>.int .i64 n):=fun w vs _ hG hs hr=>by
 obtain⟨v,rfl,h1⟩:=ae7 hs hr
 rw[h1.str_inv]
 refine(h w hG).mono ?_
 rintro e w' ⟨rfl,hb⟩
 exact⟨_,rfl,hb,fun _ _=>.int _ _⟩
def am.tv (x:am):List TV:=[.int .i64 x.op,.int .i64 x.a,.int .i64 x.b,.str x.text]
theorem vf {G:World->Prop} (hst:ay G) (hca:∀s:ByteArray,s.size<=1048576->Ct Tryz.prog G 223 [.str s] (fun _=>.int .i64 (cz s.data.toList))) (op a b:Int) (t:ByteArray) (hs:t.size<=1048576) (hop:inR op 1 26=true):Ct Tryz.prog G 271 [.agg [.int .i64 op,.int .i64 a,.int .i64 b,.str t]] (fun _=>.tup [.int .i64 (am.eff ⟨op,a,b,t⟩).1,.int .i64 (am.eff ⟨op,a,b,t⟩).2]):=by
 refine av Tryz.func271 rfl Tryz.ntmps271 rfl rfl fun w0 _ hG=>?_
 have h1:=sF t.data.toList
 have h2:=sN t.data.toList
 simp only[inR,decide_eq_true_eq] at hop
 repeat' (first|refine W_ ?_|refine aJ ?_|refine ae hG hst (hca _ hs) ?_|refine c_ (fun hc=>?_) (fun hc=>?_))
 all_goals
   clear hst
   have he:am.eff ⟨op,a,b,t⟩=am.eff ⟨op,a,b,t⟩:=rfl
   conv at he=>rhs;unfold am.eff
   dsimp only at he
   rw[he]
   refine fj x_ rfl (.tmp _ _ rfl) (.tmp _ _ rfl) (fun _=>?_) (fun _=>?_)
   all_goals
     refine abB ?_
     first
       | (subst hc;simp;done)
       | (have h3:op=20\/op=23:=by omega
          rcases h3 with rfl|rfl <;> simp;done)
def agL (ds:List Int):Array Value:=(ds.map (Value.int .i64)).toArray
theorem adD (ds:List Int) (p:Nat) (d:Int):(agL ds).setIfInBounds p (.int .i64 d)=agL (ds.set p d):=by
 unfold agL
 rw[List.setIfInBounds_toArray,Yz]
def nts (q:List Nat):List Int:=q.map Int.ofNat
theorem aav (a b:List Nat):nts (a++b)=nts a++nts b:=by simp[nts]
theorem jU.blk {w:World} {g:Nat} {e:TypeId} {xs:List Value} (h:jU w g e xs.length xs):Blk w g e xs.toArray:=by
 obtain⟨cur,h1,h2,_,h4⟩:=h
 have:cur=xs.toArray:=by
   rw[Zc (by simp[h2])] at h4
   rw[<- h4]
 rw[<- this];exact h1
def agp (x:am):Array Value:=#[.int .i64 x.op,.int .i64 x.a,.int .i64 x.b,.string x.text]
structure oL (w wi:World) (g B B2 gb:Nat) (x:am) (L:List (Int×Int)) (A13:Option Addr) (c13:Nat) (A14:Option Addr) (c14:Nat) (r14:List Int) (ds:List Int) (tl:List Nat) (A:Option Addr) (c:Nat):Prop where
 own:dg wi (fun b=>g<b/\(b<B\/B2<=b)) (.sl A c 1 (ae3 (nts tl)))
 dep:Blk wi g 3 (agL ds)
 s13:eF wi (Rng B B2) (.sl A13 c13 1 (ae3 (L.map Prod.fst)))
 s14:eF wi (Rng B B2) (.sl A14 c14 1 (ae3 (L.map Prod.snd++r14)))
 box:Blk wi gb 234 (agp x)
 old:Below w.heap.size w wi
 sz:B2<=wi.heap.size
 hg:g<B
 hg0:w.heap.size<=g
 hB:B<=B2
 hgb:B<=gb
 hgb2:gb<B2
section
variable {w wi:World} {g B B2 gb:Nat} {x:am} {L:List (Int×Int)} {A13:Option Addr} {c13:Nat} {A14:Option Addr} {c14:Nat} {r14:List Int} {ds:List Int} {tl:List Nat} {A:Option Addr} {c:Nat}
theorem oL.set (h:oL w wi g B B2 gb x L A13 c13 A14 c14 r14 ds tl A c) (p:Nat) (d:Int):oL w (wi.setCell ⟨g,p,none⟩ (.int .i64 d)) g B B2 gb x L A13 c13 A14 c14 r14 (ds.set p d) tl A c :=
 ⟨h.own.far (p:=⟨g,p,none⟩) (fun hh=>by have:=hh.1;simp at this) _,by rw[<- adD];exact h.dep.set_ p _,
  h.s13.keep (fun b hb=>Below.heap_setCell _ _ _ _ (by have:=hb.1;have:=h.hg;simp only;omega)) (fun _ hb _=>hb),
  h.s14.keep (fun b hb=>Below.heap_setCell _ _ _ _ (by have:=hb.1;have:=h.hg;simp only;omega)) (fun _ hb _=>hb),
  h.box.far (p:=⟨g,p,none⟩) (by have:=h.hg;have:=h.hgb;simp only;omega) _,h.old.setCell h.hg0 _,by have:=h.sz;simpa [World.setCell] using this,h.hg,h.hg0,h.hB,h.hgb,h.hgb2⟩
theorem oL.drewN (h:oL w wi g B B2 gb x L A13 c13 A14 c14 r14 ds tl A c) (n:Nat):oL w (wi.drewN n) g B B2 gb x L A13 c13 A14 c14 r14 ds tl A c :=
 ⟨h.own.keep fun _ _ _=>rfl,h.dep,h.s13.keep (fun _ _=>rfl) fun _ hb _=>hb,h.s14.keep (fun _ _=>rfl) fun _ hb _=>hb,h.box,bB h.old n,h.sz,h.hg,h.hg0,h.hB,h.hgb,h.hgb2⟩
theorem oL.push (h:oL w wi g B B2 gb x L A13 c13 A14 c14 r14 ds tl A c) {w2:World} {A':Option Addr} {c' p:Nat} (ho:dg w2 (fun b=>g<b/\(b<B\/B2<=b)) (.sl A' c' 1 (ae3 (nts tl++[(p:Int)])))) (ht:eu (·∈PT.rowOf A) wi w2):oL w w2 g B B2 gb x L A13 c13 A14 c14 r14 ds (tl++[p]) A' c':=by
 have hA:∀b,b∈PT.rowOf A->g<b/\(b<B\/B2<=b):=fun b hb=>h.own.2.2 b (by simp[PT.blocks,hb])
 refine⟨by rw[aav];exact ho,h.dep.touch ht fun hb=>by have:=(hA g hb).1;omega,h.s13.touch ht fun b hb _ hm=>?_,h.s14.touch ht fun b hb _ hm=>?_,h.box.touch ht fun hb=>?_,h.old.trans (ht.below h.old.size fun b hb=>by have:=(hA b hb).1;have:=h.hg0;omega),Z0 h.sz ht.size,h.hg,h.hg0,h.hB,h.hgb,h.hgb2⟩
 ·have h1:=hA b hm;have h2:=hb.1;have h3:=hb.2;omega
 ·have h1:=hA b hm;have h2:=hb.1;have h3:=hb.2;omega
 ·have h1:=hA gb hb;have h2:=h.hgb;have h3:=h.hgb2;omega
end
structure yY (w wx:World) (g:Nat) (ds:List Int) (tl:List Nat) (A:Option Addr) (c:Nat):Prop where
 own:dg wx (g<·) (.sl A c 1 (ae3 (nts tl)))
 dep:Blk wx g 3 (agL ds)
 old:Below w.heap.size w wx
 hg0:w.heap.size<=g
theorem yY.below {w wx w':World} {g:Nat} {ds:List Int} {tl:List Nat} {A:Option Addr} {c:Nat} (h:yY w wx g ds tl A c) (hb:Below wx.heap.size wx w'):yY w w' g ds tl A c :=
 ⟨h.own.below hb,h.dep.below hb h.dep.lt,h.old.trans (hb.mono h.old.size),h.hg0⟩
theorem oL.out {w wi:World} {g B B2 gb:Nat} {x:am} {L:List (Int×Int)} {A13:Option Addr} {c13:Nat} {A14:Option Addr} {c14:Nat} {r14:List Int} {ds:List Int} {tl:List Nat} {A:Option Addr} {c:Nat} (h:oL w wi g B B2 gb x L A13 c13 A14 c14 r14 ds tl A c):yY w wi g ds tl A c :=
 ⟨h.own.mono fun b hb _=>hb.1,h.dep,h.old,h.hg0⟩
theorem ad1 {is:List am} {i:am} {at_:Nat} {ds ds':List Int} {new q:List Nat} {k:Nat} (hpi:ep is.length i=true) (hD:DSt is.length ds q k) (hg:0<=gd ds at_) (h:uj is i at_ ds=some (ds',new)):DSt is.length ds' (q++new) k:=by
 rw[<- ab4 is i at_ ds hD.inv hpi hg] at h
 have hsel:i.op=14->0<=i.eff.1:=fun h14=>by
   simp only[ep,Zq] at hpi
   have:=hpi.1.2
   simp[h14] at this
   simp[am.eff,h14];exact this
 unfold mg at h
 by_cases ht:gd ds at_<i.eff.1
 ·rw[if_pos ht] at h;cases h
 ·rw[if_neg ht] at h
  by_cases hA:(i.labs.any (iM is at_ i.op))=true
  ·rw[if_pos hA] at h;cases h
  ·rw[if_neg hA] at h
   exact jS _ ds q [] _ (gZ _ at_ _ hg ht hsel) (by rw[Zt];exact hD) h
theorem zO (is:List am) (at_ op p d:Int) (r:List (Int×Int)) (ds:List Int) (q:List Nat):j6 is at_ op ((p,d)::r) (ds,q)=if aaz is at_ op p then none else if gd ds p=-1 then j6 is at_ op r (ds.set p.toNat d,q++[p.toNat]) else if gd ds p=d then j6 is at_ op r (ds,q) else none:=rfl
def dK (is:List am):Option (List Int):=if is.length=0 then none else tf is (uj is) is.length (0::List.replicate (is.length - 1) (-1)) [0]
theorem qE (is:List am) (hp:kr is=true):cx is=dK is:=by
 unfold cx dK
 rw[if_pos hp]
 split
 ·rfl
 ·rename_i h
  exact act is hp _ _ _ (od (by omega))
theorem acy {n:Nat} (i:am) (at_:Nat) (d:Int) (h:ep n i=true):∀x∈i.nexts at_ d,0<=x.1:=by
 simp only[ep,Zq] at h
 have hl:=h.2
 simp only[List.all_eq_true,inR,decide_eq_true_eq] at hl
 intro x hx
 rcases oR i.op with h'|h'|h'|h'|h'|h'|h'|h'|h'|h'|h'|h'|h'|h'|h'|h'
 all_goals
   simp only[am.labs,h'] at hl
   simp[am.nexts,h'] at hx
   try simp at hl
   try first
     | (subst hx;simp;omega)
     | (rcases hx with rfl|rfl <;> simp <;> omega)
     | (rcases hx with rfl|rfl|rfl <;> simp <;> omega)
theorem tO (i:am) (a d:Int):(i.nexts a d).length<=3:=by
 unfold am.nexts
 repeat' split
 all_goals simp
def eT (is:List am):List (List TV):=is.map am.tv
theorem lx (is:List am):(eT is).length=is.length:=by simp[eT]
def js (n i:Nat):List Int:=List.replicate i (-1)++List.replicate (n - i) 0
theorem rj {n i:Nat} (h:i<n):(aS (js n i))[i]?=some [.int .i64 0]/\(aS (js n i)).set i [.int .i64 (-1)]=aS (js n (i+1)):=by
 have e:n - i=(n - (i+1))+1:=by omega
 refine⟨?_, ?_⟩
 ·simp only[aS,js,Zj]
  rw[Zr (by simp),e,Z8];simp
 ·simp only[aS,js]
  rw[e,Z8,<- Yz]
  congr 1
  rw[Yw _ _ (by simp)]
  simp[List.replicate_succ',Zk]
def dO (r:Option (List Int)) (y:Nat×Nat):aG:=[(y.1,y.2,.row 1 (aS (r.getD [])))]
def dR (r:Option (List Int)) (y:Nat×Nat):TV:=.tup [.ms y.1 y.2 0 (r.getD []).length,.bool r.isSome]
theorem nw {G:World->Prop} (hst:ay G) (hca:∀s:ByteArray,s.size<=1048576->Ct Tryz.prog G 223 [.str s] (fun _=>.int .i64 (cz s.data.toList))) (lo l2:Nat) (bl:Bool) (pr sl:Int) (is:List am) (hn:is.length<=1048576) (ht:∀i∈is,i.text.size<=1048576) (hp:kr is=true) :
   CtM Tryz.prog G 225 [.cp lo [.bool bl,.int .i64 pr,.int .i64 sl,.sl l2 4 (eT is)]] [] (fun _:Nat×Nat=>True) (dO (dK is)) (dR (dK is)):=by
 refine au Tryz.func225 rfl Tryz.ntmps225 rfl rfl rfl fun w0 R gs objsR hG hR=>?_
 obtain rfl:=hR.inv0
 have hlen:=lx is
 repeat' (first|refine W_ ?_|(refine gK ?_;intro ss bb))
 have h0:(List.replicate is.length [TV.int .i64 0])=aS (js is.length 0):=by simp[js,aS]
 apply ap (X:=Nat) [0,4,1000000] (fun i=>[(5,.int .i64 (i:Int))]) (fun i=>(ss,bb,.row 1 (aS (js is.length i)))::R) (fun i=>i<=is.length) (fun i=>is.length - i) 0 (Ze _)
 exact kp_;exact nw_
 ·rw[<- h0];exact .refl _
 intro i hi
 try dsimp only at hi |-
 by_cases hlt:i<is.length
 ·obtain⟨hrow,hset⟩:=rj hlt
  repeat' (first|refine W_ ?_|refine bD ?_)
  rw[hset]
  refine ah (i+1) (by omega) (by omega) (.of _ nw_ od_ (.refl _))
 ·obtain rfl:i=is.length:=by omega
  by_cases hz:is.length=0
  ·have hd:dK is=none:=by unfold dK;rw[if_pos hz]
   rw[hd]
   repeat' (first|refine W_ ?_|(refine jz ?_;intro ss bb))
   refine eG 2 1 (by omega) rfl fun ss=>cr x_ rfl (ss,0) trivial rfl (.cons _ _ _ _ (.nil R)) pk_ (.tmp _ _ rfl) (.tmp _ _ rfl) rfl
  ·have hrow0:(aS (js is.length is.length))[0]?=some [.int .i64 (-1)]:=by
     simp only[js,aS,Zj]
     rw[Zs (by simp;omega),List.getElem?_replicate,if_pos (by omega)];rfl
   have hset0:(aS (js is.length is.length)).set 0 [.int .i64 0]=aS (0::List.replicate (is.length - 1) (-1)):=by
     have e:is.length=(is.length - 1)+1:=by omega
     simp only[js,aS,Yt,YZ,Zt]
     rw[e,Z8];rfl
   have hnz:0<is.length:=by omega
   have hdS:tf is (uj is) is.length (0::List.replicate (is.length - 1) (-1)) [0]=dK is:=by unfold dK;rw[if_neg hz]
   generalize ss=sd;generalize bb=bd
   repeat' (first|refine W_ ?_|(refine jz ?_;intro ss bb)|refine bD ?_)
   generalize ss=st;generalize bb=bt
   rw[hset0]
   apply ap (X:=Nat×List Int×List Nat×Nat×Nat) [0,4,1000000] (fun x=>[(6,.ms st x.2.2.2.1 0 x.2.2.1.length),(7,.int .i64 (x.1:Int))]) (fun x=>(st,x.2.2.2.1,.row 1 (aS (nts x.2.2.1)))::(sd,bd,.row 1 (aS x.2.1))::R)
     (fun x=>x.1<=x.2.2.1.length/\x.1+x.2.2.2.2<=is.length/\DSt is.length x.2.1 (x.2.2.1.drop x.1) x.2.2.2.2/\tf is (uj is) x.2.2.2.2 x.2.1 (x.2.2.1.drop x.1)=dK is) (fun x=>x.2.2.2.2) (0,0::List.replicate (is.length - 1) (-1),[0],bt,is.length) ⟨Ze _,by simp,od (by omega),hdS⟩
   exact kp_;exact nw_
   ·exact .refl _
   rintro ⟨k,ds,td,bt,f⟩ ⟨hk,hkf,hD,hfl⟩
   dsimp only at hk hkf hD hfl |-
   by_cases hlt:k<td.length
   ·have hg:(aS (nts td))[k]?=some [.int .i64 ((td[k]:Nat):Int)]:=by simp[aS,nts,hlt]
    rw[ZI hlt] at hD hfl
    obtain⟨j,rfl,hD',hpn,hg0⟩:=hD.pop
    rw[jQ _ _ _ _ _ hpn] at hfl
    have hrange:=hD'.inv.gd (td[k]:Nat)
    have hdl:=hD'.len
    have hdi:(aS ds)[td[k]]?=some [.int .i64 (gd ds (td[k]:Nat))]:=by
      have h9:=qN (ds:=ds) (p:=td[k]) (by omega)
      simp only[aS,Zj]
      rw[Za (by omega),h9];rfl
    have hii:(eT is)[td[k]]?=some (is[td[k]]).tv:=by simp only[eT,Zj];rw[Za hpn];rfl
    have hpi:ep is.length is[td[k]]=true:=List.all_eq_true.1 hp _ (Zb _)
    have hti:=ht _ (Zb hpn)
    generalize is[td[k]]=ii at hfl hii hpi hti
    obtain⟨op,a,b,t⟩:=ii
    have her:=jK ⟨op,a,b,t⟩
    have hop:inR op 1 26=true:=by simp only[ep,Zq] at hpi;exact hpi.1.1
    have hef:=vf hst hca op a b t hti hop
    replace hii:(eT is)[td[k]]?=some [.int .i64 op,.int .i64 a,.int .i64 b,.str t]:=hii
    have htd:td.length<=is.length:=by have h9:=hD'.mu;simp at h9;omega
    generalize hp':td[k]=p at *
    have hstep:uj is ⟨op,a,b,t⟩ p ds=if gd ds p - (am.eff ⟨op,a,b,t⟩).1<0\/250<gd ds p - (am.eff ⟨op,a,b,t⟩).1+(am.eff ⟨op,a,b,t⟩).2 then none else j6 is p op (am.nexts ⟨op,a,b,t⟩ p (gd ds p)) (ds,[]):=rfl
    have hst1:=fun ds' new h=>ad1 (i:=⟨op,a,b,t⟩) (ds':=ds') (new:=new) hpi hD' (by omega) h
    have hnn:=acy (n:=is.length) ⟨op,a,b,t⟩ p (gd ds p) hpi
    have hnl:=tO ⟨op,a,b,t⟩ p (gd ds p)
    have hnx:am.nexts ⟨op,a,b,t⟩ p (gd ds p)=am.nexts ⟨op,a,b,t⟩ p (gd ds p):=rfl
    conv at hnx=>rhs;unfold am.nexts
    dsimp only at hnx
    generalize am.nexts ⟨op,a,b,t⟩ p (gd ds p)=L at *
    generalize gd ds (p:Int)=g at *
    generalize he1:(am.eff ⟨op,a,b,t⟩).1=e1 at *
    generalize he2:(am.eff ⟨op,a,b,t⟩).2=e2 at *
    simp only[inR,decide_eq_true_eq] at hop
    repeat' (first|((with_reducible apply o_y);exact y_;rfl)|(refine jz ?_;intro ss bb)|(refine ak ?_;intro ss bb)|refine ac ?_|refine ae hG hst (hef) ?_|with_reducible refine tU (id:=4) ?_  | with_reducible refine dJ rfl ?_|(with_reducible first|apply d8|apply cP|apply gp|apply eK|apply du|apply eL|apply eI|apply gG|apply bP|apply(bE rfl)|apply bM|apply bZ|apply bN|apply dG)|refine jI rfl rfl rfl rr_ ?_|refine gM rfl rfl rfl rr_ rfl rfl rfl ?_|refine fc rfl rfl rfl rr_ rfl rfl ?_|(refine oC rfl rfl rfl rr_ dd_ ?_)|(refine pK rfl rfl rfl rr_ dd_ ?_)|(refine ew rfl rfl rfl rr_ (fun hg=>?_) (fun hg=>?_))|(refine ed rfl rfl rfl rr_ (fun hg=>?_) (fun hg=>?_))|refine cQ rfl rr_ ?_|refine cO rfl rr_ ?_|(refine cw rfl rr_ dd_ ?_)|(refine cu rfl rr_ dd_ ?_)|(refine eZ rfl rr_ (fun hc=>?_) (fun hc=>?_))|(refine dQ rfl rr_ (fun hc=>?_) (fun hc=>?_)))
    ·have hd:dK is=none:=by rw[hstep,if_pos (.inl hg)] at hfl;exact hfl.symm
     rw[hd]
     refine eG 2 1 (by omega) rfl fun ss=>cr x_ rfl (ss,0) trivial rfl (.cons _ _ _ _ (.nil R)) pk_ (.tmp _ _ rfl) (.tmp _ _ rfl) rfl
    ·have hd:dK is=none:=by rw[hstep,if_pos (.inr hc)] at hfl;exact hfl.symm
     rw[hd]
     refine eG 2 1 (by omega) rfl fun ss=>cr x_ rfl (ss,0) trivial rfl (.cons _ _ _ _ (.nil R)) pk_ (.tmp _ _ rfl) (.tmp _ _ rfl) rfl
    refine⟨?_⟩
    rw[hstep,if_neg (by omega)] at hfl
    rw[if_neg (by omega)] at hstep
    rename_i s9 b9 s13 b13
    generalize ss=s14;generalize bb=b14
    apply gq (X:=Nat×Nat×Nat×Nat×List Int) [0,4,6,7,8,9,1000000] (fun x=>[(13,.ms x.1 x.2.1 0 L.length),(14,.ms x.2.2.1 x.2.2.2.1 0 (L.length+x.2.2.2.2.length))])
      (fun x=>(x.1,x.2.1,.row 1 (aS (L.map Prod.fst)))::(x.2.2.1,x.2.2.2.1,.row 1 (aS (L.map Prod.snd++x.2.2.2.2)))::(s9,b9,.box [.int .i64 op,.int .i64 a,.int .i64 b,.str t])::(st,bt,.row 1 (aS (nts td)))::(sd,bd,.row 1 (aS ds))::R) (fun x=>True)
    case hk=>(repeat (first|exact j9.nil|(apply j9.cons;rfl)))
    ·clear hfl hst1 hD hD' hstep
     by_cases h19:op=19
     ·obtain rfl:L=[]:=by rw[hnx,if_pos h19]
      repeat' (first|refine W_ ?_|(refine jz ?_;intro ss bb))
      refine eR (ss,bb,s14,b14,[g - e1+e2]) trivial (.of _ nw_ od_ pk_)
     by_cases h20:op=20
     ·obtain rfl:L=[(a,g - e1+e2)]:=by rw[hnx,if_neg h19,if_pos h20]
      repeat' (first|refine W_ ?_|(refine jz ?_;intro ss bb))
      refine eR (ss,bb,s14,b14,[]) trivial (.of _ nw_ od_ pk_)
     by_cases h21:op=21\/op=22
     ·obtain rfl:L=[((p:Int)+1,g - e1+e2),(a,g - e1+e2),(b,g - e1+e2+1)]:=by rw[hnx,if_neg h19,if_neg h20,if_pos h21]
      have he0:e2=0:=by
        rw[<- he2];rcases h21 with rfl|rfl <;> rfl
      subst he0
      rcases h21 with rfl|rfl
      all_goals
        repeat' (first|refine W_ ?_|refine ef ?_|(refine vy ?_;intro bb))
        rename_i bb13
        refine eR (s13,bb13,s14,bb,[]) trivial (.of _ nw_ od_ pk_)
     by_cases h24:op=24\/op=25
     ·obtain rfl:L=[((p:Int)+1,g - e1+e2),(b,g - 1)]:=by rw[hnx,if_neg h19,if_neg h20,if_neg h21,if_pos h24]
      have he0:e1=2:=by
        rw[<- he1];rcases h24 with rfl|rfl <;> rfl
      subst he0
      rcases h24 with rfl|rfl
      all_goals
        repeat' (first|refine W_ ?_|refine ef ?_|(refine vy ?_;intro bb))
        rename_i bb13
        refine eR (s13,bb13,s14,bb,[]) trivial (.of _ nw_ od_ pk_)
     by_cases h26:op=26
     ·obtain rfl:L=[((p:Int)+1,g - e1+e2),(b,g)]:=by rw[hnx,if_neg h19,if_neg h20,if_neg h21,if_neg h24,if_pos h26]
      have he0:e1=2:=by
        rw[<- he1,h26];rfl
      subst he0
      repeat' (first|refine W_ ?_|refine ef ?_|(refine vy ?_;intro bb))
      rename_i bb13
      refine eR (s13,bb13,s14,bb,[]) trivial (.of _ nw_ od_ pk_)
     ·obtain rfl:L=[((p:Int)+1,g - e1+e2)]:=by rw[hnx,if_neg h19,if_neg h20,if_neg h21,if_neg h24,if_neg h26]
      repeat' refine W_ ?_
      refine eR (s13,b13,s14,b14,[]) trivial (.of _ nw_ od_ pk_)
    ·rintro ⟨s13',b13',s14',b14',r14⟩ _
     dsimp only
     rw[hstep] at hst1
     clear hnx he1 he2 her hef hpi hstep hD hD'
     repeat' refine W_ ?_
     apply ap (X:=Nat×List Int×List Nat×Nat) [0,4,7,8,9,13,14,1000000] (fun x=>[(15,.int .i64 (x.1:Int)),(6,.ms st x.2.2.2 0 (td.length+x.2.2.1.length))])
       (fun x=>(s13',b13',.row 1 (aS (L.map Prod.fst)))::(s14',b14',.row 1 (aS (L.map Prod.snd++r14)))::(s9,b9,.box [.int .i64 op,.int .i64 a,.int .i64 b,.str t])::(st,x.2.2.2,.row 1 (aS (nts (td++x.2.2.1))))::(sd,bd,.row 1 (aS x.2.1))::R)
       (fun x=>x.1<=L.length/\x.2.1.length=is.length/\x.2.2.1.length<=x.1/\j6 is p op (L.drop x.1) (x.2.1,x.2.2.1)=j6 is p op L (ds,[])) (fun x=>L.length - x.1) (0,ds,[],bt) ⟨Ze _,hdl,Ze _,rfl⟩
     exact kp_;exact nw_
     ·rw[Zt];exact .refl _
     rintro ⟨q,ds',new,bt'⟩ ⟨hq,hdl',hnw,hpu⟩
     dsimp only at hq hdl' hnw hpu |-
     by_cases hql:q<L.length
     ·have hu0:=hnn _ (Zb hql)
      rw[ZI hql] at hpu
      have hr13:(aS (L.map Prod.fst))[q]?=some [.int .i64 L[q].1]:=by simp[aS,hql]
      have hr14:(aS (L.map Prod.snd++r14))[q]?=some [.int .i64 L[q].2]:=by
        simp only[aS,Zj]
        rw[Zs (by simpa using hql)];simp[hql]
      generalize L[q]=uv at hu0 hpu hr13 hr14
      obtain⟨u,v⟩:=uv
      obtain⟨un,rfl⟩:∃un:Nat,u=(un:Int):=⟨u.toNat,by dsimp only at hu0;omega⟩
      dsimp only at hr13 hr14
      rw[zO] at hpu
      repeat' refine H_ 40 ?_
      refine⟨d8 ?_⟩
      apply gq (X:=Unit) [0,4,6,7,8,9,13,14,15,1000000] (fun _=>[(170,.bool (aaz is p op (un:Int)))])
        (fun _=>(s13',b13',.row 1 (aS (L.map Prod.fst)))::(s14',b14',.row 1 (aS (L.map Prod.snd++r14)))::(s9,b9,.box [.int .i64 op,.int .i64 a,.int .i64 b,.str t])::(st,bt',.row 1 (aS (nts (td++new))))::(sd,bd,.row 1 (aS ds'))::R) (fun _=>True)
      case hk=>(repeat (first|exact j9.nil|(apply j9.cons;rfl)))
      ·clear hpu hfl hst1
       by_cases hlen1:(is.length:Int)<=(un:Int)
       ·have hb:aaz is p op (un:Int)=true:=by simp[aaz,hlen1]
        rw[hb]
        repeat' refine V_ ?_
        refine eR () trivial (.of _ nw_ od_ pk_)
       have hun:un<is.length:=by omega
       have hri:(eT is)[un]?=some (is[un]).tv:=by simp only[eT,Zj];rw[Za hun];rfl
       have hoa:ago is (un:Int)=is[un].op:=by simp[ago,hun]
       generalize is[un]=iu at hri hoa
       obtain⟨op',a',b',t'⟩:=iu
       replace hri:(eT is)[un]?=some [.int .i64 op',.int .i64 a',.int .i64 b',.str t']:=hri
       have hbs:aaz is p op (un:Int)=(!decide (op=26) && decide ((un:Int)<=p) && !decide (op'=23)):=by simp[aaz,iM,hlen1,hoa]
       rw[hbs]
       have hw3:op=26\/(¬ op=26/\(un:Int)<=p)\/(¬ op=26/\¬ (un:Int)<=p):=by omega
       rcases hw3 with h26|⟨h26,hle⟩|⟨h26,hle⟩
       all_goals
         repeat' refine V_ ?_
         refine eR () trivial (.of _ nw_ od_ pk_)
      ·intro _ _
       by_cases hbad:aaz is p op (un:Int)=true
       ·have hd:dK is=none:=by rw[if_pos hbad] at hpu;rw[<- hpu] at hfl;exact hfl.symm
        rw[hd,hbad]
        repeat' (first|with_reducible refine dJ rfl ?_|((with_reducible first|apply xM|apply nP);rfl;rfl)|with_reducible refine d8 ?_|with_reducible refine cP ?_|with_reducible refine gp ?_|with_reducible refine eK ?_|with_reducible refine du ?_|with_reducible refine eL ?_|with_reducible refine eI ?_|with_reducible refine gG ?_|with_reducible refine bP ?_|with_reducible refine bE rfl ?_|with_reducible refine bM ?_|with_reducible refine bZ ?_|with_reducible refine bN ?_|with_reducible refine dG ?_|refine cQ rfl rr_ ?_|refine cO rfl rr_ ?_|(refine cw rfl rr_ dd_ ?_)|(refine cu rfl rr_ dd_ ?_)|(refine eZ rfl rr_ (fun hc=>?_) (fun hc=>?_))|(refine dQ rfl rr_ (fun hc=>?_) (fun hc=>?_)))
        refine eG 2 1 (by omega) rfl fun ss=>cr x_ rfl (ss,0) trivial rfl (.cons _ _ _ _ (.nil R)) pk_ (.tmp _ _ rfl) (.tmp _ _ rfl) rfl
       have hun:un<is.length:=Xo fun h=>hbad (by simp[aaz];left;omega)
       rw[if_neg hbad] at hpu
       rw[YI] at hbad
       rw[hbad]
       have hrd:(aS ds')[un]?=some [.int .i64 (gd ds' (un:Int))]:=by
         have h9:=qN (ds:=ds') (p:=un) (by omega)
         simp only[aS,Zj]
         rw[Za (by omega),h9];rfl
       have hll:(aS (nts (td++new))).length=td.length+new.length:=by simp[aS,nts]
       by_cases hgd:gd ds' (un:Int)=-1
       ·rw[if_pos hgd] at hpu
        rw[hgd] at hrd
        repeat' (first|refine W_ ?_|(with_reducible apply dh (id:=43) 10;kernel_rfl;kernel_rfl;kernel_rfl;(repeat (first|exact Cut.zero _|apply Cut.succ)))|with_reducible refine dB (by kernel_rfl) (by kernel_rfl) ?_|with_reducible refine eV ?_|with_reducible refine dz ?_|with_reducible refine dC rfl ?_|refine eS rfl rfl rfl rr_ ?_|refine dx rfl rfl rfl rr_ rfl rfl rfl ?_|refine cG rfl rfl rfl rr_ rfl rfl ?_|(refine iH rfl rfl rfl rr_ dd_ ?_)|(refine ir rfl rfl rfl rr_ dd_ ?_)|(refine bX rfl rfl rfl rr_ (fun hg=>?_) (fun hg=>?_))|(refine bF rfl rfl rfl rr_ (fun hg=>?_) (fun hg=>?_))|((with_reducible apply d_y);exact y_;rfl)|refine bD ?_|refine ef ?_|(refine vy ?_;intro bb))
        refine ah (q+1,ds'.set un v,new++[un],bb) ⟨by dsimp only;omega,by simp[hdl'],by simp;omega,by dsimp only;rw[<- hpu];rfl⟩ (by dsimp only;omega) (.of _ nw_ od_ pk_)
       ·rw[if_neg hgd] at hpu
        by_cases hgv:gd ds' (un:Int)=v
        ·rw[if_pos hgv] at hpu
         repeat' refine V_ ?_
         refine ah (q+1,ds',new,bt') ⟨by dsimp only;omega,hdl',by dsimp only;omega,by dsimp only;exact hpu⟩ (by dsimp only;omega) (.of _ nw_ od_ pk_)
        ·rw[if_neg hgv] at hpu
         have hd:dK is=none:=by rw[<- hpu] at hfl;exact hfl.symm
         rw[hd]
         repeat' refine V_ ?_
         refine eG 2 1 (by omega) rfl fun ss=>cr x_ rfl (ss,0) trivial rfl (.cons _ _ _ _ (.nil R)) pk_ (.tmp _ _ rfl) (.tmp _ _ rfl) rfl
     ·rw[Yl (by omega)] at hpu
      rw[<- hpu] at hfl
      dsimp only [j6] at hfl
      repeat' refine W_ ?_
      refine ah (k+1,ds',td++new,bt',j) ⟨by simp;omega,by dsimp only;omega, ?_, ?_⟩ (by dsimp only;omega) (.of _ nw_ od_ pk_)
      ·dsimp only
       rw[Y2 (by omega)]
       exact hst1 ds' new hpu.symm
      ·dsimp only
       rw[Y2 (by omega)];exact hfl
   ·rw[Yc (by omega)] at hfl
    have hd:dK is=some ds:=by rw[<- hfl];simp[tf]
    have hdl:=hD.len
    rw[hd]
    repeat' refine W_ ?_
    refine cr x_ rfl (sd,bd) trivial rfl (.cons _ _ _ _ (.nil R)) pk_ (.tmp _ _ rfl) (.tmp _ _ rfl) (by simp[dR,hdl])
theorem bC {G:World->Prop} (n a b:Int):Ct Tryz.prog G 76 [.int .i64 n,.int .i64 a,.int .i64 b] (fun _=>.bool (inR n a b)):=by
 refine av Tryz.func76 rfl Tryz.ntmps76 rfl rfl fun w0 _ hG=>?_
 repeat' (first|with_reducible refine dJ rfl ?_|((with_reducible apply o_y);exact y_;rfl)|with_reducible refine d8 ?_|with_reducible refine cP ?_|with_reducible refine gp ?_|with_reducible refine eK ?_|with_reducible refine du ?_|with_reducible refine eL ?_|with_reducible refine eI ?_|with_reducible refine gG ?_|with_reducible refine bP ?_|with_reducible refine bE rfl ?_|with_reducible refine bM ?_|with_reducible refine bZ ?_|with_reducible refine bN ?_|with_reducible refine dG ?_|with_reducible refine dJ rfl ?_|refine jI rfl rfl rfl rr_ ?_|refine gM rfl rfl rfl rr_ rfl rfl rfl ?_|refine fc rfl rfl rfl rr_ rfl rfl ?_|(refine oC rfl rfl rfl rr_ dd_ ?_)|(refine pK rfl rfl rfl rr_ dd_ ?_)|(refine ew rfl rfl rfl rr_ (fun hg=>?_) (fun hg=>?_))|(refine ed rfl rfl rfl rr_ (fun hg=>?_) (fun hg=>?_))|refine cQ rfl rr_ ?_|refine cO rfl rr_ ?_|(refine cw rfl rr_ dd_ ?_)|(refine cu rfl rr_ dd_ ?_)|(refine eZ rfl rr_ (fun hc=>?_) (fun hc=>?_))|(refine dQ rfl rr_ (fun hc=>?_) (fun hc=>?_)))
 all_goals
   refine aN x_ rfl (.tmp _ _ rfl) (fun _=>?_)
   refine aL ?_
   simp only[inR]
   first|(rw[decide_eq_decide];omega)|(symm;rw[decide_eq_false_iff_not];omega)
theorem aP {G:World->Prop} (n a b:Int):Ct Tryz.prog G 49 [.int .i64 n,.int .i64 a,.int .i64 b] (fun _=>.bool (inR n a b)):=by
 refine av Tryz.func49 rfl Tryz.ntmps49 rfl rfl fun w0 _ hG=>?_
 repeat' (first|with_reducible refine dJ rfl ?_|((with_reducible apply o_y);exact y_;rfl)|with_reducible refine d8 ?_|with_reducible refine cP ?_|with_reducible refine gp ?_|with_reducible refine eK ?_|with_reducible refine du ?_|with_reducible refine eL ?_|with_reducible refine eI ?_|with_reducible refine gG ?_|with_reducible refine bP ?_|with_reducible refine bE rfl ?_|with_reducible refine bM ?_|with_reducible refine bZ ?_|with_reducible refine bN ?_|with_reducible refine dG ?_|with_reducible refine dJ rfl ?_|refine jI rfl rfl rfl rr_ ?_|refine gM rfl rfl rfl rr_ rfl rfl rfl ?_|refine fc rfl rfl rfl rr_ rfl rfl ?_|(refine oC rfl rfl rfl rr_ dd_ ?_)|(refine pK rfl rfl rfl rr_ dd_ ?_)|(refine ew rfl rfl rfl rr_ (fun hg=>?_) (fun hg=>?_))|(refine ed rfl rfl rfl rr_ (fun hg=>?_) (fun hg=>?_))|refine cQ rfl rr_ ?_|refine cO rfl rr_ ?_|(refine cw rfl rr_ dd_ ?_)|(refine cu rfl rr_ dd_ ?_)|(refine eZ rfl rr_ (fun hc=>?_) (fun hc=>?_))|(refine dQ rfl rr_ (fun hc=>?_) (fun hc=>?_)))
 all_goals
   refine aN x_ rfl (.tmp _ _ rfl) (fun _=>?_)
   refine aL ?_
   simp only[inR]
   first|(rw[decide_eq_decide];omega)|(symm;rw[decide_eq_false_iff_not];omega)
def af5 (op:Int):Bool:=decide (op=1\/op=12\/op=15\/op=20\/op=8\/op=9\/op=21\/op=22\/op=25\/op=26\/op=14)
def agO (op:Int):Bool:=decide (op=8\/op=9\/op=21\/op=22\/op=25\/op=26\/op=24)
def agB (op:Int):Bool:=decide (op=2\/op=3\/op=10\/op=11\/op=13\/op=14)
theorem aax {G:World->Prop} (op:Int):Ct Tryz.prog G 269 [.int .i64 op] (fun _=>.tup [.bool (af5 op),.bool (agO op),.bool (agB op)]):=by
 refine av Tryz.func269 rfl Tryz.ntmps269 rfl rfl fun w0 _ hG=>?_
 repeat' (first|with_reducible refine dJ rfl ?_|((with_reducible apply o_y);exact y_;rfl)|with_reducible refine d8 ?_|with_reducible refine cP ?_|with_reducible refine gp ?_|with_reducible refine eK ?_|with_reducible refine du ?_|with_reducible refine eL ?_|with_reducible refine eI ?_|with_reducible refine gG ?_|with_reducible refine bP ?_|with_reducible refine bE rfl ?_|with_reducible refine bM ?_|with_reducible refine bZ ?_|with_reducible refine bN ?_|with_reducible refine dG ?_|with_reducible refine dJ rfl ?_|refine jI rfl rfl rfl rr_ ?_|refine gM rfl rfl rfl rr_ rfl rfl rfl ?_|refine fc rfl rfl rfl rr_ rfl rfl ?_|(refine oC rfl rfl rfl rr_ dd_ ?_)|(refine pK rfl rfl rfl rr_ dd_ ?_)|(refine ew rfl rfl rfl rr_ (fun hg=>?_) (fun hg=>?_))|(refine ed rfl rfl rfl rr_ (fun hg=>?_) (fun hg=>?_))|refine cQ rfl rr_ ?_|refine cO rfl rr_ ?_|(refine cw rfl rr_ dd_ ?_)|(refine cu rfl rr_ dd_ ?_)|(refine eZ rfl rr_ (fun hc=>?_) (fun hc=>?_))|(refine dQ rfl rr_ (fun hc=>?_) (fun hc=>?_)))
 all_goals
   refine abk x_ rfl (.tmp _ _ rfl) (.tmp _ _ rfl) (.tmp _ _ rfl) (fun _=>?_) (fun _=>?_) (fun _=>?_)
   all_goals
     refine aL ?_
     simp only[af5,agO,agB]
     symm
     first|(rw[decide_eq_true_iff];omega)|(rw[decide_eq_false_iff_not];omega)
end Go.Proofs.YtifcomgnmokimaaGreatDoor
