/- Part 22 of the proof: the texts IvO, IvU, RsD. -/
import Derived.Test.YtofnnnpahglfdaaGreatDoorCo3
import Derived.Test.YtofnnnpahglfdaaGreatDoorCo15
import Derived.Test.YtofnnnpahglfdaaGreatDoorCo18
import Derived.Test.YtofnnnpahglfdaaGreatDoorCo16
import Derived.Test.YtofnnnpahglfdaaGreatDoorCo19
import Derived.Test.YtofnnnpahglfdaaGreatDoorCo21
set_option linter.all false
set_option maxHeartbeats 8000000
set_option maxRecDepth 20000
namespace Go.Proofs.YtofnnnpahglfdaaGreatDoor
open Go Go.RowKit
def jv (o:List Int) (n k i:Nat):List Int:=((ik o n (k:Int)).take i).reverse
theorem aab (o:List Int) (n k i:Nat):(jv o n k i).length<=n:=by
 have:=lD o n (k:Int)
 simp[jv];omega
theorem xD {o:List Int} {n k i:Nat} {v:Int} (h:(ik o n (k:Int))[i]?=some v):v::jv o n k i=jv o n k (i+1):=by
 unfold jv
 rw[Z6,h];simp
theorem aaH {o:List Int} {n k i:Nat} (h:(ik o n (k:Int))[i]?=none):jv o n k i=(ik o n (k:Int)).reverse:=by
 unfold jv
 rw[Zc (List.getElem?_eq_none_iff.1 h)]
theorem zX (f lo lo2:Nat) (cl:List aa) (cen:TV) (cs:List aH) (mn:Int) (hcl:cl.length<=1048576) (hcs:cs.length<=1048576/\∀y∈cs,aH.small 1048576 y) (o:List Int) (hinv:di cs.length o) (k:Nat) (own:aH) (hk:cs[k]?=some own)
   (hbf:∀x∈own.instrs,jo cs k x) :
   Ct Tryz.prog GL 179 [.cp f [.sl lo 3 (cl.map (aa.tw lo)),.sl lo 4 (cs.map (aH.tw lo)),cen,.int .i64 mn],.int .i64 (k:Int),.sl lo2 1 (aL o)] (fun _=>.bool (aad cs cl.length o k own)):=by
 refine au Tryz.func179 rfl Tryz.ntmps179 rfl rfl fun w0 _ hG=>?_
 have hst:=d8
 have hkl:k<cs.length:=(List.getElem?_eq_some_iff.1 hk).1
 have hsm:=hcs.2 own (Zq hk)
 have hiq:=fun L hL x hx hb hsl=>w7 hst ag7 f lo w0.heap.size cl cen cs mn hcl hcs o hinv k own hk hsl L hL x hx hb
 have hpre:=rh (cs:=cs) (nc:=cl.length) (o:=o) (k:=k) (own:=own)
 have hcF:=acZ (cs:=cs) (nc:=cl.length) (o:=o) (k:=k) (x:=own)
 have hcT:=aby (cs:=cs) (nc:=cl.length) (o:=o) (k:=k) (x:=own)
 unfold gH sG at hcF hcT
 have hrk:(cs.map (aH.tw lo))[k]?=some [.bool own.block,.int .i64 own.params,.int .i64 own.slots,.sl lo 4 (own.instrs.map (ak.tw lo))]:=by rw[Zp,hk];rfl
 clear hk
 have hgen:∀x∈own.instrs,fG cs cl.length o k own x=true->True:=fun _ _ _=>trivial
 clear hgen
 have hB:∃B:ak->Bool,B=fG cs cl.length o k own:=⟨_,rfl⟩
 obtain⟨B,hB⟩:=hB
 rw[<- hB] at hcF hcT hpre
 have hiq2:∀(L:List Int),L=(ik o cs.length (k:Int)).reverse->∀x:ak,x.text.size<=1048576->jo cs k x->0<=own.slots/\own.slots<=30->Ct Tryz.prog GL 243 [.cp f [.sl lo 3 (cl.map (aa.tw lo)),.sl lo 4 (cs.map (aH.tw lo)),cen,.int .i64 mn],.int .i64 (k:Int),.agg [.int .i64 x.op,.int .i64 x.a,.int .i64 x.b,.str x.text],.sl w0.heap.size 1 (aL L)] (fun _=>.bool (B x)):=fun L hL x hx hb hsl=>by rw[hB];exact hiq L hL x hx hb hsl
 clear hiq
 have hcB:aad cs cl.length o k own=aad cs cl.length o k own:=rfl
 generalize hC:aad cs cl.length o k own=C at hcF hcT |-
 clear hB hcB hC
 obtain⟨bl,pr,sl,is⟩:=own
 dsimp only at hbf hsm hiq2 hpre hcF hcT hrk
 have hn:is.length<=1048576:=hsm.1
 have ht:∀i∈is,i.text.size<=1048576:=hsm.2
 have hil:=ak.len lo is
 have c1:=bA (G:=GL) sl 0 30
 have c2:=bA (G:=GL) pr 0 sl
 by_cases h1:inR sl 0 30=true
 case neg =>
   rw[hcF fun h=>h1 h.1.1]
   rw[Bool.eq_false_iff.2 h1] at c1
   repeat' (first|refine V_ ?_|refine ai hG hst (c1) ?_)
   exact r1_
 by_cases h2:inR pr 0 sl=true
 case neg =>
   rw[hcF fun h=>h2 h.1.2.1]
   rw[h1] at c1
   rw[Bool.eq_false_iff.2 h2] at c2
   repeat' (first|refine V_ ?_|refine ai hG hst (c1) ?_|refine ai hG hst (c2) ?_)
   exact r1_
 rw[h1] at c1
 rw[h2] at c2
 by_cases h3:is.length<=900
 case neg =>
   rw[hcF fun h=>h3 h.1.2.2]
   repeat' (first|refine V_ ?_|refine ai hG hst (c1) ?_|refine ai hG hst (c2) ?_)
   exact r1_
 have hsl:=of_decide_eq_true h1
 repeat' (first|refine V_ ?_|refine cK ?_|refine ai hG hst (c1) ?_|refine ai hG hst (c2) ?_)
 have hinv':di o.length o:=by rw[hinv.1];exact hinv
 have hol:o.length=cs.length:=hinv.1
 have hcl2:=hcs.1
 apply aj (X:=Nat) [0,1,2,7] (fun i=>[(8,.sl w0.heap.size 1 (aL (jv o cs.length k i))),(9,.int .i64 (upN o i (k:Int)))]) (fun _=>[]) (fun i=>i<=cs.length) (fun i=>cs.length - i) 0 (Zd _)
 exact kp_;exact nw_
 ·exact .refl _
 intro i hi
 try dsimp only at hi |-
 have hup:=vo hinv' i (k:Int) (.inr ⟨by omega,by omega⟩)
 have hcu:=nN hinv' cs.length (k:Int) i (.inr ⟨by omega,by omega,by omega⟩)
 have hLl:=aab o cs.length k i
 have hLr:=ae (jv o cs.length k i)
 by_cases hat:0<=upN o i (k:Int)
 ·obtain⟨j,hj⟩:∃j:Nat,upN o i (k:Int)=j:=⟨(upN o i (k:Int)).toNat,by omega⟩
  have hs:=jH o i (k:Int)
  rw[if_neg (by omega),hj] at hs
  rw[if_pos hat,hj] at hcu
  rw[hj] at hup
  have hin:i<cs.length:=ZJ (List.getElem?_eq_some_iff.1 hcu).1 (lD _ _ _)
  have hrow:=dz (o:=o) (j:=j) (by omega)
  have hstep:=xD hcu
  generalize jv o cs.length k i=L at hLl hLr hstep |-
  have hnew:[[TV.int .i64 (j:Int)]]++aL L=aL (jv o cs.length k (i+1)):=by rw[<- hstep];rfl
  rw[hj]
  repeat' (first|refine W_ ?_|(refine jZ ?_;intro ss bb)|(refine uA ?_;intro bb))
  refine aa3 (t:=8) rfl ?_ (.head _) ?_
  ·simp[hLr];omega
  rw[hnew]
  exact ag (i+1) (by omega) (by omega) (.of _ nw_ od_ pk_)
 ·rw[if_neg hat] at hcu
  have hend:=aaH hcu
  rw[hend] at hLl hLr |-
  clear hend hcu
  have hins:=hiq2 _ rfl
  clear hiq2
  generalize (ik o cs.length (k:Int)).reverse=L at hLl hLr hins |-
  repeat' refine W_ ?_
  apply aj (X:=Nat) [0,1,7,8] (fun q=>[(10,.int .i64 (q:Int))]) (fun _=>[]) (fun q=>q<=is.length/\∀j,j<q->∀h:j<is.length,B is[j]=true) (fun q=>is.length - q) 0 ⟨Zd _,by omega⟩
  exact kp_;exact nw_
  ·exact .refl _
  rintro q ⟨hq,hqa⟩
  try dsimp only
  by_cases hlt:q<is.length
  ·have hra:=jF (lo:=lo) hlt
   have hmem:is[q]∈is:=Zb hlt
   have hxq:=ht _ hmem
   have hct:=hins is[q] hxq (hbf _ hmem) hsl
   have hnx:B is[q]=true->∀j,j<q+1->∀h:j<is.length,B is[j]=true:=fun h=>cy hqa fun _=>h
   have hbad:B is[q]=false->C=false:=fun h=>hcF fun k=>by
     have:=k.2.1 _ hmem
     rw[h] at this;cases this
   generalize is[q]=x at hra hct hnx hbad
   cases hBx:B x
   ·rw[hBx] at hct
    rw[hbad hBx]
    repeat' (first|refine W_ ?_|refine ad hG hst (hct) ?_)
    exact r1_
   ·rw[hBx] at hct
    repeat' (first|refine W_ ?_|refine ad hG hst (hct) ?_)
    exact ag (q+1) ⟨by omega,hnx hBx⟩ (by omega) (.of _ nw_ od_ pk_)
  ·have hall:∀y∈is,B y=true:=fun y hy=>by
     obtain⟨j,hj,rfl⟩:=ZE hy
     exact hqa j (by omega) hj
   have hp:=hpre hall
   have hdep:=nf hst ahe lo lo bl pr sl is hn ht hp
   have hnew:=ab3 (dw is)
   have hCe:C=(dw is).isSome:=by
     rw[<- rv is hp]
     cases hd:(cn is).isSome
     ·exact hcF fun h=>by rw[hd] at h;exact absurd h.2.2 (by simp)
     ·exact hcT ⟨⟨h1,h2,h3⟩,hall,hd⟩
   rw[hCe]
   rw[lE lo] at hdep
   unfold dR dO at hdep hnew
   generalize (dw is).getD []=ds at hdep hnew
   generalize (dw is).isSome=ok at hdep hnew |-
   repeat' (first|refine W_ ?_|((with_reducible apply cB);rfl;kernel_rfl;exact hG;exact hst;exact hdep;((repeat (first|exact bD.nil|((with_reducible apply bD.cons);rfl;(first|with_reducible exact bG.same _|((with_reducible apply bG.msAll);(repeat (first|with_reducible exact mh|with_reducible refine mt ?_));(first|with_reducible assumption|exact aw _|exact ae _|exact av _|exact Ze _|assumption|rfl))|((with_reducible apply bH);(repeat (first|with_reducible exact mh|with_reducible refine mt ?_));(first|with_reducible assumption|exact aw _|exact ae _|exact av _|exact Ze _|assumption|rfl))|((with_reducible apply bG.cut);exact bG.cp0 _ _;rfl))))));exact hnew;rintro ⟨ss,bb⟩ -;refine bF ?_))
   exact r1_
theorem qi (f lo:Nat) (cl:List aa) (es:List aF) (cs:List aH) (mn:Int) (hcl:cl.length<=1048576/\∀y∈cl,aa.small 1048576 y) (hcs:cs.length<=1048576/\∀y∈cs,aH.small 1048576 y) (hes:es.length<=1048576/\∀y∈es,aF.small 1048576 y) :
   Ct Tryz.prog GL 96 [.cp f [.sl lo 3 (cl.map (aa.tw lo)),.sl lo 4 (cs.map (aH.tw lo)),.sl lo 4 (es.map (aF.tw lo)),.int .i64 mn]] (fun _=>.bool (dD ⟨cl,cs,es,mn⟩)):=by
 refine au Tryz.func96 rfl Tryz.ntmps96 rfl rfl fun w0 _ hG=>?_
 have hst:=d8
 have hvF:=re (x:=⟨cl,cs,es,mn⟩)
 have hvT:=rj (x:=⟨cl,cs,es,mn⟩)
 unfold gf acw xl at hvF hvT
 dsimp only at hvF hvT
 generalize dD ⟨cl,cs,es,mn⟩=V at hvF hvT |-
 have hl1:=aa.len lo cl
 have hl2:=aH.len lo cs
 have hl3:=aF.len lo es
 have hcsl:=hcs.1
 have c1:=j6 hst lo cl hcl
 have c3:=bA (G:=GL) mn 0 ((cs.length:Int) - 1)
 have c5:=tD hst ag7 ahe f lo cl cs es mn hcl.1 hcs.1 hes
 have c6:=oy hst f lo (.sl lo 3 (cl.map (aa.tw lo))) (.sl lo 4 (es.map (aF.tw lo))) cs mn hcs
 by_cases h1:ci cl=true
 case neg =>
   rw[hvF fun h=>h1 h.1]
   rw[Bool.eq_false_iff.2 h1] at c1
   repeat' (first|refine V_ ?_|refine ai hG hst (c1) ?_)
   exact r1_
 rw[h1] at c1
 by_cases h2:cs.length<=200
 case neg =>
   rw[hvF fun h=>h2 h.2.1]
   repeat' (first|refine V_ ?_|refine ai hG hst (c1) ?_)
   exact r1_
 by_cases h3:inR mn 0 ((cs.length:Int) - 1)=true
 case neg =>
   rw[hvF fun h=>h3 h.2.2.1.1]
   rw[Bool.eq_false_iff.2 h3] at c3
   repeat' (first|refine V_ ?_|refine ai hG hst (c1) ?_|refine ai hG hst (c3) ?_)
   exact r1_
 have h3':=of_decide_eq_true h3
 obtain⟨q,rfl⟩:∃q:Nat,mn=q:=⟨mn.toNat,by omega⟩
 have hql:q<cs.length:=by omega
 have hrq:=ca (lo:=lo) hql
 have hpl:=iM (n:=0) rfl (Za hql)
 generalize cs[q]=y at hrq hpl
 obtain⟨yb,yp,ys,yi⟩:=y
 dsimp only at hrq hpl
 rw[h3,show (cs.length:Int) - 1=((cs.length - 1:Nat):Int) by omega] at c3
 cases yb
 case true =>
   rw[hvF fun h=>by have:=hpl.1 h.2.2.1.2;cases this.1]
   repeat' (first|refine V_ ?_|refine ai hG hst (c1) ?_|refine ai hG hst (c3) ?_)
   exact r1_
 by_cases h4:yp=0
 case neg =>
   rw[hvF fun h=>by have:=hpl.1 h.2.2.1.2;exact h4 this.2]
   repeat' (first|refine V_ ?_|refine ai hG hst (c1) ?_|refine ai hG hst (c3) ?_)
   exact r1_
 have h4':¬ yp≠0:=fun h=>h h4
 by_cases h5:fW cl.length cs es=true
 case neg =>
   rw[hvF fun h=>h5 h.2.2.2.1]
   rw[Bool.eq_false_iff.2 h5] at c5
   repeat' (first|refine V_ ?_|refine ai hG hst (c1) ?_|refine ai hG hst (c3) ?_|refine ai hG hst (c5) ?_)
   exact r1_
 rw[h5] at c5
 have hhead:=hpl.2 ⟨rfl,h4⟩
 unfold aeI at c6
 cases hR:fy cs
 case none =>
   rw[hR] at c6
   have hf:V=false:=hvF fun h=>by
     obtain⟨o,ho,_⟩:=h.2.2.2.2
     rw[hR] at ho;cases ho
   rw[hf]
   clear hvF hvT
   replace c6:Ct Tryz.prog GL 102 [.cp f [.sl lo 3 (cl.map (aa.tw lo)),.sl lo 4 (cs.map (aH.tw lo)),.sl lo 4 (es.map (aF.tw lo)),.int .i64 (q:Int)]] (fun K=>.tup [.sl K 1 [],.bool false]):=c6
   repeat' (first|refine V_ ?_|refine ai hG hst (c1) ?_|refine ai hG hst (c3) ?_|refine ai hG hst (c5) ?_|refine ad hG hst (c6) ?_)
   apply aj (X:=Nat) [0,3,4] (fun i=>[(5,.int .i64 (i:Int))]) (fun _=>[]) (fun i=>i=0) (fun i=>1 - i) 0 rfl
   exact kp_;exact nw_
   ·exact .refl _
   rintro i rfl
   try dsimp only
   have hpos:((0:Nat):Int)<(cs.length:Int):=by omega
   repeat' refine W_ ?_
   exact r1_
 case some o =>
   rw[hR] at c6
   replace c6:Ct Tryz.prog GL 102 [.cp f [.sl lo 3 (cl.map (aa.tw lo)),.sl lo 4 (cs.map (aH.tw lo)),.sl lo 4 (es.map (aF.tw lo)),.int .i64 (q:Int)]] (fun K=>.tup [.sl K 1 (aL o),.bool true]):=c6
   obtain⟨hinv,hfit⟩:=kg hR
   have hblk:=fun i c hc=>sV hR (i:=i) (c:=c) hc
   have hvF2:¬ rH cs cl.length o->V=false:=fun h=>hvF fun k=>by
     obtain⟨o',ho',hc'⟩:=k.2.2.2.2
     rw[hR] at ho';cases ho'
     exact h hc'
   have hvT2:rH cs cl.length o->V=true:=fun h=>hvT ⟨h1,h2,⟨h3,hhead⟩,h5,o,hR,h⟩
   clear hvF hvT hR
   repeat' (first|refine V_ ?_|refine ai hG hst (c1) ?_|refine ai hG hst (c3) ?_|refine ai hG hst (c5) ?_|refine ad hG hst (c6) ?_)
   apply aj (X:=Nat×Bool) [0,3] (fun x=>[(5,.int .i64 (x.1:Int)),(4,.bool x.2)]) (fun _=>[]) (fun x=>x.1<=cs.length/\(x.2=true->∀j,j<x.1->∀h:j<cs.length,gH cs cl.length o j cs[j])/\(x.2=false->V=false)) (fun x=>cs.length - x.1) (0,true) ⟨Zd _,fun _=>by omega,fun h=>by cases h⟩
   exact kp_;exact nw_
   ·exact .refl _
   rintro ⟨i,ok⟩ ⟨hi,ha,hb⟩
   dsimp only at hi ha hb |-
   by_cases hlt:i<cs.length
   ·cases ok
    case false =>
      rw[hb rfl]
      repeat' refine W_ ?_
      exact r1_
    have hg:cs[i]?=some cs[i]:=Za hlt
    have hct:=zX f lo w0.heap.size cl (.sl lo 4 (es.map (aF.tw lo))) cs q hcl.1 hcs o hinv i cs[i] hg (hblk i _ hg)
    have hT:=aby (cs:=cs) (nc:=cl.length) (o:=o) (k:=i) (x:=cs[i])
    have hF:=acZ (cs:=cs) (nc:=cl.length) (o:=o) (k:=i) (x:=cs[i])
    have hnx:gH cs cl.length o i cs[i]->∀j,j<i+1->∀h:j<cs.length,gH cs cl.length o j cs[j]:=fun ho=>cy (ha rfl) fun _=>ho
    by_cases hco:gH cs cl.length o i cs[i]
    ·rw[hT hco] at hct
     repeat' (first|refine W_ ?_|refine ad hG hst (hct) ?_)
     exact ag (i+1,true) ⟨by dsimp only;omega,fun _=>hnx hco,fun h=>(by cases h)⟩ (by dsimp only;omega) (.of _ nw_ od_ pk_)
    ·rw[hF hco] at hct
     repeat' (first|refine W_ ?_|refine ad hG hst (hct) ?_)
     exact ag (i+1,false) ⟨by dsimp only;omega,fun h=>(by cases h),fun _=>hvF2 fun h=>hco (h i hlt)⟩ (by dsimp only;omega) (.of _ nw_ od_ pk_)
   ·have hVe:V=ok:=by
      cases ok
      ·exact hb rfl
      ·exact hvT2 fun j hj=>ha rfl j (by omega) hj
    rw[hVe]
    repeat' refine W_ ?_
    exact r1_
end Go.Proofs.YtofnnnpahglfdaaGreatDoor
