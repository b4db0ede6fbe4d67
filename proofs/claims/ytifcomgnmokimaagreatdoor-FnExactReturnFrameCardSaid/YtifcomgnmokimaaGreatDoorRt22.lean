/- Part 22 of the proof: the texts IvO, IvU, RsD. -/
import Derived.Test.YtifcomgnmokimaaGreatDoorRt3
import Derived.Test.YtifcomgnmokimaaGreatDoorRt15
import Derived.Test.YtifcomgnmokimaaGreatDoorRt18
import Derived.Test.YtifcomgnmokimaaGreatDoorRt16
import Derived.Test.YtifcomgnmokimaaGreatDoorRt19
import Derived.Test.YtifcomgnmokimaaGreatDoorRt21
set_option linter.all false
set_option maxHeartbeats 8000000
set_option maxRecDepth 20000
namespace Go.Proofs.YtifcomgnmokimaaGreatDoor
open Go Go.RowKit
def jp (o:List Int) (n k i:Nat):List Int:=((iE o n (k:Int)).take i).reverse
theorem aap (o:List Int) (n k i:Nat):(jp o n k i).length<=n:=by
 have:=lV o n (k:Int)
 simp[jp];omega
theorem xq {o:List Int} {n k i:Nat} {v:Int} (h:(iE o n (k:Int))[i]?=some v):v::jp o n k i=jp o n k (i+1):=by
 unfold jp
 rw[Ye,h];simp
theorem zB {o:List Int} {n k i:Nat} (h:(iE o n (k:Int))[i]?=none):jp o n k i=(iE o n (k:Int)).reverse:=by
 unfold jp
 rw[Zc (List.getElem?_eq_none_iff.1 h)]
theorem aay (f lo lo2:Nat) (cl:List aa) (cen:TV) (cs:List aB) (mn:Int) (hcl:cl.length<=1048576) (hcs:cs.length<=1048576/\∀y∈cs,aB.small 1048576 y) (o:List Int) (hinv:dA cs.length o) (k:Nat) (own:aB) (hk:cs[k]?=some own)
   (hbf:∀x∈own.instrs,jL cs k x) :
   Ct Tryz.prog GL 161 [.cp f [.sl lo 3 (cl.map (aa.tw lo)),.sl lo 4 (cs.map (aB.tw lo)),cen,.int .i64 mn],.int .i64 (k:Int),.sl lo2 1 (aS o)] (fun _=>.bool (zy cs cl.length o k own)):=by
 refine av Tryz.func161 rfl Tryz.ntmps161 rfl rfl fun w0 _ hG=>?_
 have hst:=en
 have hkl:k<cs.length:=(List.getElem?_eq_some_iff.1 hk).1
 have hsm:=hcs.2 own (Zm hk)
 have hiq:=fun L hL x hx hb hsl=>wS hst ahL f lo w0.heap.size cl cen cs mn hcl hcs o hinv k own hk hsl L hL x hx hb
 have hpre:=qF (cs:=cs) (nc:=cl.length) (o:=o) (k:=k) (own:=own)
 have hcF:=aaQ (cs:=cs) (nc:=cl.length) (o:=o) (k:=k) (x:=own)
 have hcT:=aaZ (cs:=cs) (nc:=cl.length) (o:=o) (k:=k) (x:=own)
 unfold gU sJ at hcF hcT
 have hrk:(cs.map (aB.tw lo))[k]?=some [.bool own.block,.int .i64 own.params,.int .i64 own.slots,.sl lo 4 (own.instrs.map (am.tw lo))]:=by rw[Zj,hk];rfl
 clear hk
 have hgen:∀x∈own.instrs,fQ cs cl.length o k own x=true->True:=fun _ _ _=>trivial
 clear hgen
 have hB:∃B:am->Bool,B=fQ cs cl.length o k own:=⟨_,rfl⟩
 obtain⟨B,hB⟩:=hB
 rw[<- hB] at hcF hcT hpre
 have hiq2:∀(L:List Int),L=(iE o cs.length (k:Int)).reverse->∀x:am,x.text.size<=1048576->jL cs k x->0<=own.slots/\own.slots<=30->Ct Tryz.prog GL 224 [.cp f [.sl lo 3 (cl.map (aa.tw lo)),.sl lo 4 (cs.map (aB.tw lo)),cen,.int .i64 mn],.int .i64 (k:Int),.agg [.int .i64 x.op,.int .i64 x.a,.int .i64 x.b,.str x.text],.sl w0.heap.size 1 (aS L)] (fun _=>.bool (B x)):=fun L hL x hx hb hsl=>by rw[hB];exact hiq L hL x hx hb hsl
 clear hiq
 have hcB:zy cs cl.length o k own=zy cs cl.length o k own:=rfl
 generalize hC:zy cs cl.length o k own=C at hcF hcT |-
 clear hB hcB hC
 obtain⟨bl,pr,sl,is⟩:=own
 dsimp only at hbf hsm hiq2 hpre hcF hcT hrk
 have hn:is.length<=1048576:=hsm.1
 have ht:∀i∈is,i.text.size<=1048576:=hsm.2
 have hil:=am.len lo is
 have c1:=bC (G:=GL) sl 0 30
 have c2:=bC (G:=GL) pr 0 sl
 by_cases h1:inR sl 0 30=true
 case neg =>
   rw[hcF fun h=>h1 h.1.1]
   rw[Bool.eq_false_iff.2 h1] at c1
   repeat' (first|refine V_ ?_|refine ai hG hst (c1) ?_)
   exact r1_
 by_cases h2:inR pr 0 sl=true
 case neg =>
   rw[hcF fun h=>h2 h.1.2.1]
   rw[h1] at c1
   rw[Bool.eq_false_iff.2 h2] at c2
   repeat' (first|refine V_ ?_|refine ai hG hst (c1) ?_|refine ai hG hst (c2) ?_)
   exact r1_
 rw[h1] at c1
 rw[h2] at c2
 by_cases h3:is.length<=900
 case neg =>
   rw[hcF fun h=>h3 h.1.2.2]
   repeat' (first|refine V_ ?_|refine ai hG hst (c1) ?_|refine ai hG hst (c2) ?_)
   exact r1_
 have hsl:=of_decide_eq_true h1
 repeat' (first|refine V_ ?_|refine ef ?_|refine ai hG hst (c1) ?_|refine ai hG hst (c2) ?_)
 have hinv':dA o.length o:=by rw[hinv.1];exact hinv
 have hol:o.length=cs.length:=hinv.1
 have hcl2:=hcs.1
 apply ap (X:=Nat) [0,1,2,7] (fun i=>[(8,.sl w0.heap.size 1 (aS (jp o cs.length k i))),(9,.int .i64 (upN o i (k:Int)))]) (fun _=>[]) (fun i=>i<=cs.length) (fun i=>cs.length - i) 0 (Ze _)
 exact kp_;exact nw_
 ·exact .refl _
 intro i hi
 try dsimp only at hi |-
 have hup:=vp hinv' i (k:Int) (.inr ⟨by omega,by omega⟩)
 have hcu:=nN hinv' cs.length (k:Int) i (.inr ⟨by omega,by omega,by omega⟩)
 have hLl:=aap o cs.length k i
 have hLr:=aj (jp o cs.length k i)
 by_cases hat:0<=upN o i (k:Int)
 ·obtain⟨j,hj⟩:∃j:Nat,upN o i (k:Int)=j:=⟨(upN o i (k:Int)).toNat,by omega⟩
  have hs:=j3 o i (k:Int)
  rw[if_neg (by omega),hj] at hs
  rw[if_pos hat,hj] at hcu
  rw[hj] at hup
  have hin:i<cs.length:=ZJ (List.getElem?_eq_some_iff.1 hcu).1 (lV _ _ _)
  have hrow:=fG (o:=o) (j:=j) (by omega)
  have hstep:=xq hcu
  generalize jp o cs.length k i=L at hLl hLr hstep |-
  have hnew:[[TV.int .i64 (j:Int)]]++aS L=aS (jp o cs.length k (i+1)):=by rw[<- hstep];rfl
  rw[hj]
  repeat' (first|refine W_ ?_|(refine jz ?_;intro ss bb)|(refine vy ?_;intro bb))
  refine abr (t:=8) rfl ?_ (.head _) ?_
  ·simp[hLr];omega
  rw[hnew]
  exact ah (i+1) (by omega) (by omega) (.of _ nw_ od_ pk_)
 ·rw[if_neg hat] at hcu
  have hend:=zB hcu
  rw[hend] at hLl hLr |-
  clear hend hcu
  have hins:=hiq2 _ rfl
  clear hiq2
  generalize (iE o cs.length (k:Int)).reverse=L at hLl hLr hins |-
  repeat' refine W_ ?_
  apply ap (X:=Nat) [0,1,7,8] (fun q=>[(10,.int .i64 (q:Int))]) (fun _=>[]) (fun q=>q<=is.length/\∀j,j<q->∀h:j<is.length,B is[j]=true) (fun q=>is.length - q) 0 ⟨Ze _,by omega⟩
  exact kp_;exact nw_
  ·exact .refl _
  rintro q ⟨hq,hqa⟩
  try dsimp only
  by_cases hlt:q<is.length
  ·have hra:=jW (lo:=lo) hlt
   have hmem:is[q]∈is:=Zb hlt
   have hxq:=ht _ hmem
   have hct:=hins is[q] hxq (hbf _ hmem) hsl
   have hnx:B is[q]=true->∀j,j<q+1->∀h:j<is.length,B is[j]=true:=fun h=>cH hqa fun _=>h
   have hbad:B is[q]=false->C=false:=fun h=>hcF fun k=>by
     have:=k.2.1 _ hmem
     rw[h] at this;cases this
   generalize is[q]=x at hra hct hnx hbad
   cases hBx:B x
   ·rw[hBx] at hct
    rw[hbad hBx]
    repeat' (first|refine W_ ?_|refine ae hG hst (hct) ?_)
    exact r1_
   ·rw[hBx] at hct
    repeat' (first|refine W_ ?_|refine ae hG hst (hct) ?_)
    exact ah (q+1) ⟨by omega,hnx hBx⟩ (by omega) (.of _ nw_ od_ pk_)
  ·have hall:∀y∈is,B y=true:=fun y hy=>by
     obtain⟨j,hj,rfl⟩:=ZD hy
     exact hqa j (by omega) hj
   have hp:=hpre hall
   have hdep:=nw hst ahX lo lo bl pr sl is hn ht hp
   have hnew:=aa4 (dK is)
   have hCe:C=(dK is).isSome:=by
     rw[<- qE is hp]
     cases hd:(cx is).isSome
     ·exact hcF fun h=>by rw[hd] at h;exact absurd h.2.2 (by simp)
     ·exact hcT ⟨⟨h1,h2,h3⟩,hall,hd⟩
   rw[hCe]
   rw[lT lo] at hdep
   unfold dR dO at hdep hnew
   generalize (dK is).getD []=ds at hdep hnew
   generalize (dK is).isSome=ok at hdep hnew |-
   repeat' (first|refine W_ ?_|((with_reducible apply ij);rfl;kernel_rfl;exact hG;exact hst;exact hdep;((repeat (first|exact bU.nil|((with_reducible apply bU.cons);rfl;(first|with_reducible exact cy.same _|((with_reducible apply cy.msAll);(repeat (first|with_reducible exact mh|with_reducible refine mt ?_));(first|with_reducible assumption|exact aI _|exact aj _|exact aH _|exact Zf _|assumption|rfl))|((with_reducible apply dS);(repeat (first|with_reducible exact mh|with_reducible refine mt ?_));(first|with_reducible assumption|exact aI _|exact aj _|exact aH _|exact Zf _|assumption|rfl))|((with_reducible apply cy.cut);exact cy.cp0 _ _;rfl))))));exact hnew;rintro ⟨ss,bb⟩ -;refine bO ?_))
   exact r1_
theorem qu (f lo:Nat) (cl:List aa) (es:List aD) (cs:List aB) (mn:Int) (hcl:cl.length<=1048576/\∀y∈cl,aa.small 1048576 y) (hcs:cs.length<=1048576/\∀y∈cs,aB.small 1048576 y) (hes:es.length<=1048576/\∀y∈es,aD.small 1048576 y) :
   Ct Tryz.prog GL 73 [.cp f [.sl lo 3 (cl.map (aa.tw lo)),.sl lo 4 (cs.map (aB.tw lo)),.sl lo 4 (es.map (aD.tw lo)),.int .i64 mn]] (fun _=>.bool (dM ⟨cl,cs,es,mn⟩)):=by
 refine av Tryz.func73 rfl Tryz.ntmps73 rfl rfl fun w0 _ hG=>?_
 have hst:=en
 have hvF:=qT (x:=⟨cl,cs,es,mn⟩)
 have hvT:=qM (x:=⟨cl,cs,es,mn⟩)
 unfold d9 aa0 we at hvF hvT
 dsimp only at hvF hvT
 generalize dM ⟨cl,cs,es,mn⟩=V at hvF hvT |-
 have hl1:=aa.len lo cl
 have hl2:=aB.len lo cs
 have hl3:=aD.len lo es
 have hcsl:=hcs.1
 have c1:=kb hst lo cl hcl
 have c3:=bC (G:=GL) mn 0 ((cs.length:Int) - 1)
 have c5:=sm hst ahL ahX f lo cl cs es mn hcl.1 hcs.1 hes
 have c6:=pX hst f lo (.sl lo 3 (cl.map (aa.tw lo))) (.sl lo 4 (es.map (aD.tw lo))) cs mn hcs
 by_cases h1:cn cl=true
 case neg =>
   rw[hvF fun h=>h1 h.1]
   rw[Bool.eq_false_iff.2 h1] at c1
   repeat' (first|refine V_ ?_|refine ai hG hst (c1) ?_)
   exact r1_
 rw[h1] at c1
 by_cases h2:cs.length<=200
 case neg =>
   rw[hvF fun h=>h2 h.2.1]
   repeat' (first|refine V_ ?_|refine ai hG hst (c1) ?_)
   exact r1_
 by_cases h3:inR mn 0 ((cs.length:Int) - 1)=true
 case neg =>
   rw[hvF fun h=>h3 h.2.2.1.1]
   rw[Bool.eq_false_iff.2 h3] at c3
   repeat' (first|refine V_ ?_|refine ai hG hst (c1) ?_|refine ai hG hst (c3) ?_)
   exact r1_
 have h3':=of_decide_eq_true h3
 obtain⟨q,rfl⟩:∃q:Nat,mn=q:=⟨mn.toNat,by omega⟩
 have hql:q<cs.length:=by omega
 have hrq:=cj (lo:=lo) hql
 have hpl:=iW (n:=0) rfl (Za hql)
 generalize cs[q]=y at hrq hpl
 obtain⟨yb,yp,ys,yi⟩:=y
 dsimp only at hrq hpl
 rw[h3,show (cs.length:Int) - 1=((cs.length - 1:Nat):Int) by omega] at c3
 cases yb
 case true =>
   rw[hvF fun h=>by have:=hpl.1 h.2.2.1.2;cases this.1]
   repeat' (first|refine V_ ?_|refine ai hG hst (c1) ?_|refine ai hG hst (c3) ?_)
   exact r1_
 by_cases h4:yp=0
 case neg =>
   rw[hvF fun h=>by have:=hpl.1 h.2.2.1.2;exact h4 this.2]
   repeat' (first|refine V_ ?_|refine ai hG hst (c1) ?_|refine ai hG hst (c3) ?_)
   exact r1_
 have h4':¬ yp≠0:=fun h=>h h4
 by_cases h5:f8 cl.length cs es=true
 case neg =>
   rw[hvF fun h=>h5 h.2.2.2.1]
   rw[Bool.eq_false_iff.2 h5] at c5
   repeat' (first|refine V_ ?_|refine ai hG hst (c1) ?_|refine ai hG hst (c3) ?_|refine ai hG hst (c5) ?_)
   exact r1_
 rw[h5] at c5
 have hhead:=hpl.2 ⟨rfl,h4⟩
 unfold aeC at c6
 cases hR:fJ cs
 case none =>
   rw[hR] at c6
   have hf:V=false:=hvF fun h=>by
     obtain⟨o,ho,_⟩:=h.2.2.2.2
     rw[hR] at ho;cases ho
   rw[hf]
   clear hvF hvT
   replace c6:Ct Tryz.prog GL 79 [.cp f [.sl lo 3 (cl.map (aa.tw lo)),.sl lo 4 (cs.map (aB.tw lo)),.sl lo 4 (es.map (aD.tw lo)),.int .i64 (q:Int)]] (fun K=>.tup [.sl K 1 [],.bool false]):=c6
   repeat' (first|refine V_ ?_|refine ai hG hst (c1) ?_|refine ai hG hst (c3) ?_|refine ai hG hst (c5) ?_|refine ae hG hst (c6) ?_)
   apply ap (X:=Nat) [0,3,4] (fun i=>[(5,.int .i64 (i:Int))]) (fun _=>[]) (fun i=>i=0) (fun i=>1 - i) 0 rfl
   exact kp_;exact nw_
   ·exact .refl _
   rintro i rfl
   try dsimp only
   have hpos:((0:Nat):Int)<(cs.length:Int):=by omega
   repeat' refine W_ ?_
   exact r1_
 case some o =>
   rw[hR] at c6
   replace c6:Ct Tryz.prog GL 79 [.cp f [.sl lo 3 (cl.map (aa.tw lo)),.sl lo 4 (cs.map (aB.tw lo)),.sl lo 4 (es.map (aD.tw lo)),.int .i64 (q:Int)]] (fun K=>.tup [.sl K 1 (aS o),.bool true]):=c6
   obtain⟨hinv,hfit⟩:=kz hR
   have hblk:=fun i c hc=>ta hR (i:=i) (c:=c) hc
   have hvF2:¬ sX cs cl.length o->V=false:=fun h=>hvF fun k=>by
     obtain⟨o',ho',hc'⟩:=k.2.2.2.2
     rw[hR] at ho';cases ho'
     exact h hc'
   have hvT2:sX cs cl.length o->V=true:=fun h=>hvT ⟨h1,h2,⟨h3,hhead⟩,h5,o,hR,h⟩
   clear hvF hvT hR
   repeat' (first|refine V_ ?_|refine ai hG hst (c1) ?_|refine ai hG hst (c3) ?_|refine ai hG hst (c5) ?_|refine ae hG hst (c6) ?_)
   apply ap (X:=Nat×Bool) [0,3] (fun x=>[(5,.int .i64 (x.1:Int)),(4,.bool x.2)]) (fun _=>[]) (fun x=>x.1<=cs.length/\(x.2=true->∀j,j<x.1->∀h:j<cs.length,gU cs cl.length o j cs[j])/\(x.2=false->V=false)) (fun x=>cs.length - x.1) (0,true) ⟨Ze _,fun _=>by omega,fun h=>by cases h⟩
   exact kp_;exact nw_
   ·exact .refl _
   rintro ⟨i,ok⟩ ⟨hi,ha,hb⟩
   dsimp only at hi ha hb |-
   by_cases hlt:i<cs.length
   ·cases ok
    case false =>
      rw[hb rfl]
      repeat' refine W_ ?_
      exact r1_
    have hg:cs[i]?=some cs[i]:=Za hlt
    have hct:=aay f lo w0.heap.size cl (.sl lo 4 (es.map (aD.tw lo))) cs q hcl.1 hcs o hinv i cs[i] hg (hblk i _ hg)
    have hT:=aaZ (cs:=cs) (nc:=cl.length) (o:=o) (k:=i) (x:=cs[i])
    have hF:=aaQ (cs:=cs) (nc:=cl.length) (o:=o) (k:=i) (x:=cs[i])
    have hnx:gU cs cl.length o i cs[i]->∀j,j<i+1->∀h:j<cs.length,gU cs cl.length o j cs[j]:=fun ho=>cH (ha rfl) fun _=>ho
    by_cases hco:gU cs cl.length o i cs[i]
    ·rw[hT hco] at hct
     repeat' (first|refine W_ ?_|refine ae hG hst (hct) ?_)
     exact ah (i+1,true) ⟨by dsimp only;omega,fun _=>hnx hco,fun h=>(by cases h)⟩ (by dsimp only;omega) (.of _ nw_ od_ pk_)
    ·rw[hF hco] at hct
     repeat' (first|refine W_ ?_|refine ae hG hst (hct) ?_)
     exact ah (i+1,false) ⟨by dsimp only;omega,fun h=>(by cases h),fun _=>hvF2 fun h=>hco (h i hlt)⟩ (by dsimp only;omega) (.of _ nw_ od_ pk_)
   ·have hVe:V=ok:=by
      cases ok
      ·exact hb rfl
      ·exact hvT2 fun j hj=>ha rfl j (by omega) hj
    rw[hVe]
    repeat' refine W_ ?_
    exact r1_
end Go.Proofs.YtifcomgnmokimaaGreatDoor
