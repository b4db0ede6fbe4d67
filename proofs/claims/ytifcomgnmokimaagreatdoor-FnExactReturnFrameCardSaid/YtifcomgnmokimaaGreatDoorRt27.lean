/- Part 27 of the proof: the texts IvW. -/
import Derived.Test.YtifcomgnmokimaaGreatDoorRt3
import Derived.Test.YtifcomgnmokimaaGreatDoorRt22
import Derived.Test.YtifcomgnmokimaaGreatDoorRt23
import Derived.Test.YtifcomgnmokimaaGreatDoorRt8
set_option linter.all false
set_option maxHeartbeats 2000000
set_option maxRecDepth 20000
namespace Go.Proofs.YtifcomgnmokimaaGreatDoor
open Go Go.RowKit
theorem oV {α:Type} {R:PT->α->Prop} {f:α->List TV} {l:List PT} {xs:List α} (h:AtL R l xs) (hf:∀t x,R t x->t.tvs=f x):PT.rowsL l=xs.map f:=by
 rw[PT.rowsL_map]
 apply List.ext_getElem?
 intro i
 simp only[Zj]
 by_cases hi:i<l.length
 ·have hj:i<xs.length:=by rw[<- h.1];exact hi
  rw[Za hi,Za hj]
  simp only[Yb]
  rw[hf _ _ (h.get hi)]
 ·rw[YH (by omega),YH (by rw[<- h.1];omega)];rfl
theorem kX {t:PT} {x:aa} (h:dD t x):t.tvs=x.tw 0:=by
 obtain⟨A,c,rfl⟩:=h
 simp[PT.tvs,PT.tvsL,aa.tw,ca,PT.rowsL_map,Function.comp_def]
theorem adL {t:PT} {x:aB} (h:kx t x):t.tvs=x.tw 0:=by
 obtain⟨A,c,rfl⟩:=h
 simp[PT.tvs,PT.tvsL,aB.tw,am.pt,am.tw,PT.rowsL_map,Function.comp_def]
theorem vr {t:PT} {x:aF} (h:eb t x):t.tvs=x.tw 0:=by
 obtain⟨A0,c0,l0,A1,c1,l1,A2,c2,h0,h1,rfl⟩:=h
 simp only[PT.tvs,PT.tvsL,aF.tw,oV h0 (fun _ _=>kX),oV h1 (fun _ _=>adL),PT.rowsL_map,List.map_map,Zt,ZF,Zx]
 rfl
theorem jO {w:World} {S:Nat->Prop} {t:PT} {x:aa} (h:dD t x) (hs:eF w S t) (hx:x.sane):aa.small 9223372036854775807 x:=by
 obtain⟨A,c,rfl⟩:=h
 simp only[eF,cZ] at hs
 have h1:=hs.2.2.1.1
 have h2:=hs.2.2.1.2.1
 simp only[Zf] at h1
 exact⟨hx.1,Z0 h1 h2,hx.2.2⟩
theorem zP {w:World} {S:Nat->Prop} {t:PT} {x:aB} (h:kx t x) (hs:eF w S t) (hx:x.sane):aB.small 9223372036854775807 x:=by
 obtain⟨A,c,rfl⟩:=h
 simp only[eF,cZ] at hs
 have h1:=hs.2.2.2.1.1
 have h2:=hs.2.2.2.1.2.1
 simp only[Zf] at h1
 exact⟨Z0 h1 h2,fun y hy=>(hx.2.2 y hy).2.2.2⟩
theorem tF {w:World} {S:Nat->Prop}:∀{l:List PT},cZ w S l->∀t∈l,eF w S t
 | _::_,h,t,ht=>by
   simp only[cZ] at h
   rcases List.mem_cons.1 ht with rfl|ht
   ·exact h.1
   ·exact tF h.2 t ht
theorem jP {α:Type} {R:PT->α->Prop} {w:World} {S:Nat->Prop} {l:List PT} {xs:List α} (h:AtL R l xs) (hs:cZ w S l) {p q:α->Prop} (hp:∀t x,R t x->eF w S t->p x->q x) (ha:∀x∈xs,p x):∀x∈xs,q x:=fun x hx=>by
 obtain⟨i,hi,rfl⟩:=ZD hx
 have hj:i<l.length:=by rw[h.1];exact hi
 exact hp l[i] _ (h.get hj) (tF hs _ (Zb hj)) (ha _ hx)
theorem p9 {w:World} {S:Nat->Prop} {t:PT} {x:aF} (h:eb t x) (hs:eF w S t) (hx:x.sane):aF.small 9223372036854775807 x:=by
 obtain⟨A0,c0,l0,A1,c1,l1,A2,c2,h0,h1,rfl⟩:=h
 simp only[eF,cZ] at hs
 obtain⟨⟨a1,a2,_,_,a5⟩,⟨b1,b2,_,_,b5⟩,⟨d1,d2,_,_,_⟩,_⟩:=hs
 simp only[Zf] at d1
 exact⟨⟨by rw[<- h0.1];exact Z0 a1 a2,jP h0 a5 (fun _ _=>jO) hx.1⟩,⟨by rw[<- h1.1];exact Z0 b1 b2,jP h1 b5 (fun _ _=>zP) hx.2.1⟩,⟨Z0 d1 d2,fun y hy=>(hx.2.2.1 y hy).2.1⟩⟩
end Go.Proofs.YtifcomgnmokimaaGreatDoor
