/- Part 27 of the proof: the texts IvW. -/
import Derived.Test.YtofnnnpahglfdaaGreatDoorCo3
import Derived.Test.YtofnnnpahglfdaaGreatDoorCo22
import Derived.Test.YtofnnnpahglfdaaGreatDoorCo23
import Derived.Test.YtofnnnpahglfdaaGreatDoorCo8
set_option linter.all false
set_option maxHeartbeats 2000000
set_option maxRecDepth 20000
namespace Go.Proofs.YtofnnnpahglfdaaGreatDoor
open Go Go.RowKit
theorem oQ {α:Type} {R:PT->α->Prop} {f:α->List TV} {l:List PT} {xs:List α} (h:AtL R l xs) (hf:∀t x,R t x->t.tvs=f x):PT.rowsL l=xs.map f:=by
 rw[PT.rowsL_map]
 apply List.ext_getElem?
 intro i
 simp only[Zp]
 by_cases hi:i<l.length
 ·have hj:i<xs.length:=by rw[<- h.1];exact hi
  rw[Za hi,Za hj]
  simp only[Yp]
  rw[hf _ _ (h.get hi)]
 ·rw[YA (by omega),YA (by rw[<- h.1];omega)];rfl
theorem lF {t:PT} {x:aa} (h:dn t x):t.tvs=x.tw 0:=by
 obtain⟨A,c,rfl⟩:=h
 simp[PT.tvs,PT.tvsL,aa.tw,bQ,PT.rowsL_map,Function.comp_def]
theorem adn {t:PT} {x:aH} (h:kh t x):t.tvs=x.tw 0:=by
 obtain⟨A,c,rfl⟩:=h
 simp[PT.tvs,PT.tvsL,aH.tw,ak.pt,ak.tw,PT.rowsL_map,Function.comp_def]
theorem uI {t:PT} {x:aI} (h:dS t x):t.tvs=x.tw 0:=by
 obtain⟨A0,c0,l0,A1,c1,l1,A2,c2,h0,h1,rfl⟩:=h
 simp only[PT.tvs,PT.tvsL,aI.tw,oQ h0 (fun _ _=>lF),oQ h1 (fun _ _=>adn),PT.rowsL_map,List.map_map,Zo,ZD,Zz]
 rfl
theorem jh {w:World} {S:Nat->Prop} {t:PT} {x:aa} (h:dn t x) (hs:er w S t) (hx:x.sane):aa.small 9223372036854775807 x:=by
 obtain⟨A,c,rfl⟩:=h
 simp only[er,cQ] at hs
 have h1:=hs.2.2.1.1
 have h2:=hs.2.2.1.2.1
 simp only[Ze] at h1
 exact⟨hx.1,ZN h1 h2,hx.2.2⟩
theorem aaF {w:World} {S:Nat->Prop} {t:PT} {x:aH} (h:kh t x) (hs:er w S t) (hx:x.sane):aH.small 9223372036854775807 x:=by
 obtain⟨A,c,rfl⟩:=h
 simp only[er,cQ] at hs
 have h1:=hs.2.2.2.1.1
 have h2:=hs.2.2.2.1.2.1
 simp only[Ze] at h1
 exact⟨ZN h1 h2,fun y hy=>(hx.2.2 y hy).2.2.2⟩
theorem uX {w:World} {S:Nat->Prop}:∀{l:List PT},cQ w S l->∀t∈l,er w S t
 | _::_,h,t,ht=>by
   simp only[cQ] at h
   rcases List.mem_cons.1 ht with rfl|ht
   ·exact h.1
   ·exact uX h.2 t ht
theorem jC {α:Type} {R:PT->α->Prop} {w:World} {S:Nat->Prop} {l:List PT} {xs:List α} (h:AtL R l xs) (hs:cQ w S l) {p q:α->Prop} (hp:∀t x,R t x->er w S t->p x->q x) (ha:∀x∈xs,p x):∀x∈xs,q x:=fun x hx=>by
 obtain⟨i,hi,rfl⟩:=ZE hx
 have hj:i<l.length:=by rw[h.1];exact hi
 exact hp l[i] _ (h.get hj) (uX hs _ (Zb hj)) (ha _ hx)
theorem p6 {w:World} {S:Nat->Prop} {t:PT} {x:aI} (h:dS t x) (hs:er w S t) (hx:x.sane):aI.small 9223372036854775807 x:=by
 obtain⟨A0,c0,l0,A1,c1,l1,A2,c2,h0,h1,rfl⟩:=h
 simp only[er,cQ] at hs
 obtain⟨⟨a1,a2,_,_,a5⟩,⟨b1,b2,_,_,b5⟩,⟨d1,d2,_,_,_⟩,_⟩:=hs
 simp only[Ze] at d1
 exact⟨⟨by rw[<- h0.1];exact ZN a1 a2,jC h0 a5 (fun _ _=>jh) hx.1⟩,⟨by rw[<- h1.1];exact ZN b1 b2,jC h1 b5 (fun _ _=>aaF) hx.2.1⟩,⟨ZN d1 d2,fun y hy=>(hx.2.2.1 y hy).2.1⟩⟩
end Go.Proofs.YtofnnnpahglfdaaGreatDoor
