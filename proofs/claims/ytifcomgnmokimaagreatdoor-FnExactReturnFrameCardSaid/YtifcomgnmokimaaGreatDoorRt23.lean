/- Part 23 of the proof: the texts IvV. -/
import Derived.Test.YtifcomgnmokimaaGreatDoorRt3
import Derived.Test.YtifcomgnmokimaaGreatDoorRt15
import Derived.Test.YtifcomgnmokimaaGreatDoorRt12
import Derived.Test.YtifcomgnmokimaaGreatDoorRt20
import Derived.Test.YtifcomgnmokimaaGreatDoorRt21
set_option linter.all false
set_option maxHeartbeats 16000000
set_option maxRecDepth 20000
namespace Go.Proofs.YtifcomgnmokimaaGreatDoor
open Go Go.RowKit
theorem mF (lo:Nat) (cl:List aa) (es:List aD) (cs:List aB) (mn:Int) (hcl:cl.length<=1048576/\∀y∈cl,aa.small 1048576 y) (hcs:cs.length<=1048576/\∀y∈cs,aB.small 1048576 y) (hes:es.length<=1048576/\∀y∈es,aD.small 1048576 y) :
   Ct Tryz.prog GL 99 [.agg [.sl lo 3 (cl.map (aa.tw lo)),.sl lo 4 (cs.map (aB.tw lo)),.sl lo 4 (es.map (aD.tw lo)),.int .i64 mn]] (fun _=>.bool (dM ⟨cl,cs,es,mn⟩)):=by
 refine av Tryz.func99 rfl Tryz.ntmps99 rfl rfl fun w0 _ hG=>?_
 have hst:=en
 have hvF:=qT (x:=⟨cl,cs,es,mn⟩)
 have hvT:=qM (x:=⟨cl,cs,es,mn⟩)
 unfold d9 aa0 we at hvF hvT
 dsimp only at hvF hvT
 generalize dM ⟨cl,cs,es,mn⟩=V at hvF hvT |-
 have hl1:=aa.len lo cl
 have hl2:=aB.len lo cs
 have hl3:=aD.len lo es
 have hcsl:=hcs.1
 have hesl:=hes.1
 have hcll:=hcl.1
 have c1:=mY hst lo cl hcl
 have c3:=aP (G:=GL) mn 0 ((cs.length:Int) - 1)
 by_cases h1:cn cl=true
 case neg =>
   rw[hvF fun h=>h1 h.1]
   rw[Bool.eq_false_iff.2 h1] at c1
   repeat' (first|refine V_ ?_|refine aJ ?_|refine ae hG hst (c1) ?_)
   exact r1_
 rw[h1] at c1
 by_cases h2:cs.length<=200
 case neg =>
   rw[hvF fun h=>h2 h.2.1]
   repeat' (first|refine V_ ?_|refine aJ ?_|refine ae hG hst (c1) ?_)
   exact r1_
 by_cases h9:es.length<=96
 case neg =>
   rw[hvF fun h=>by have:=h.2.2.2.1;rw[rE h9] at this;cases this]
   repeat' (first|refine V_ ?_|refine aJ ?_|refine ae hG hst (c1) ?_)
   exact r1_
 by_cases h3:inR mn 0 ((cs.length:Int) - 1)=true
 case neg =>
   rw[hvF fun h=>h3 h.2.2.1.1]
   rw[Bool.eq_false_iff.2 h3] at c3
   repeat' (first|refine V_ ?_|refine aJ ?_|refine ae hG hst (c1) ?_|refine ae hG hst (c3) ?_)
   exact r1_
 have h3':=of_decide_eq_true h3
 obtain⟨q,rfl⟩:∃q:Nat,mn=q:=⟨mn.toNat,by omega⟩
 have hql:q<cs.length:=by omega
 have hrq:=cj (lo:=lo) hql
 have hpl:=iW (n:=0) rfl (Za hql)
 generalize cs[q]=y at hrq hpl
 obtain⟨yb,yp,ys,yi⟩:=y
 dsimp only at hrq hpl
 rw[h3,show (cs.length:Int) - 1=((cs.length - 1:Nat):Int) by omega] at c3
 cases yb
 case true =>
   rw[hvF fun h=>by have:=hpl.1 h.2.2.1.2;cases this.1]
   repeat' (first|refine V_ ?_|refine aJ ?_|refine ae hG hst (c1) ?_|refine ae hG hst (c3) ?_)
   exact r1_
 by_cases h4:yp=0
 case neg =>
   rw[hvF fun h=>by have:=hpl.1 h.2.2.1.2;exact h4 this.2]
   repeat' (first|refine V_ ?_|refine aJ ?_|refine ae hG hst (c1) ?_|refine ae hG hst (c3) ?_)
   exact r1_
 have h4':¬ yp≠0:=fun h=>h h4
 have hhead:=hpl.2 ⟨rfl,h4⟩
 repeat' (first|refine V_ ?_|refine aJ ?_|refine ae hG hst (c1) ?_|refine ae hG hst (c3) ?_)
 clear hrq hpl c1 c3 h4 h4'
 -- the entries
 apply ap (X:=Nat) [1,61,62] (fun i=>[(63,.int .i64 (i:Int))]) (fun _=>[]) (fun i=>i<=es.length/\∀j,j<i->∀h:j<es.length,fF cl.length cs es[j]/\ei es j es[j]) (fun i=>es.length - i) 0 ⟨Ze _,by omega⟩
 exact kp_;exact nw_
 ·exact .refl _
 rintro i ⟨hi,hk⟩
 try dsimp only
 by_cases hlt:i<es.length
 ·have hra:=jT (lo:=lo) hlt
  have hsm:=hes.2 _ (Zb hlt)
  have hbad:¬ (fF cl.length cs es[i]/\ei es i es[i])->V=false:=fun h=>hvF fun k=>by
    have:=k.2.2.2.1
    rw[nl hlt h] at this;cases this
  have hks:fF cl.length cs es[i]/\ei es i es[i]->∀j,j<i+1->∀h:j<es.length,fF cl.length cs es[j]/\ei es j es[j]:=fun ho=>cH hk fun _=>ho
  clear hvF hvT
  generalize es[i]=e at hra hsm hbad hks
  obtain⟨ow,ec,sel,cd⟩:=e
  dsimp only at hra
  have hss:sel.size<=1048576:=hsm
  have c1:=ahy sel hss
  have c2:=ah5 sel hss
  have c3:=aP (G:=GL) ow 16 ((cl.length:Int) - 1)
  have c4:=aP (G:=GL) cd 0 ((cs.length:Int) - 1)
  have c4':(cs.length:Int) - 1=((cs.length - 1:Nat):Int):=by omega
  have c4b:=c4
  rw[c4'] at c4b
  by_cases g1:di sel.data.toList=true
  case neg =>
    rw[hbad fun h=>g1 h.1.1.1]
    rw[Bool.eq_false_iff.2 g1] at c1
    repeat' (first|refine V_ ?_|(refine ak ?_;intro ss bb)|refine ac ?_|refine ai hG hst (c1) ?_)
    exact r1_
  by_cases g2:inR ow 16 ((cl.length:Int) - 1)=true
  case neg =>
    rw[hbad fun h=>g2 h.1.1.2.1]
    rw[g1] at c1
    rw[Bool.eq_false_iff.2 g2] at c3
    repeat' (first|refine V_ ?_|(refine ak ?_;intro ss bb)|refine ac ?_|refine ai hG hst (c1) ?_|refine ai hG hst (c3) ?_)
    exact r1_
  by_cases g3:inR cd 0 ((cs.length:Int) - 1)=true
  case neg =>
    rw[hbad fun h=>g3 h.1.1.2.2]
    rw[g1] at c1
    rw[g2] at c3
    rw[<- c4',Bool.eq_false_iff.2 g3] at c4b
    rw[c4'] at c4b
    rw[Bool.eq_false_iff.2 g3] at c4
    repeat' (first|refine V_ ?_|(refine ak ?_;intro ss bb)|refine ac ?_|refine ai hG hst (c1) ?_|refine ai hG hst (c3) ?_|refine ai hG hst (c4b) ?_)
    exact r1_
  have g3':=of_decide_eq_true g3
  obtain⟨p,rfl⟩:∃p:Nat,cd=p:=⟨cd.toNat,by omega⟩
  have hpll:p<cs.length:=by omega
  have hrp:=cj (lo:=lo) hpll
  have hpp:=iW (n:=cz sel.data.toList) rfl (Za hpll)
  generalize cs[p]=y at hrp hpp
  obtain⟨yb,yp,ys,yi⟩:=y
  dsimp only at hrp hpp
  rw[g1] at c1
  rw[g2] at c3
  rw[<- c4',g3,c4'] at c4b
  clear c4
  cases yb
  case true =>
    rw[hbad fun h=>by have:=hpp.1 h.1.2;cases this.1]
    repeat' (first|refine V_ ?_|(refine ak ?_;intro ss bb)|refine ac ?_|refine ai hG hst (c1) ?_|refine ai hG hst (c3) ?_|refine ai hG hst (c4b) ?_)
    exact r1_
  by_cases g5:yp=cz sel.data.toList
  case neg =>
    rw[hbad fun h=>by have:=hpp.1 h.1.2;exact g5 this.2]
    repeat' (first|refine V_ ?_|(refine ak ?_;intro ss bb)|refine ac ?_|refine ai hG hst (c1) ?_|refine ai hG hst (c3) ?_|refine ai hG hst (c4b) ?_|refine ai hG hst (c2) ?_)
    exact r1_
  have g5':¬ yp≠cz sel.data.toList:=fun h=>h g5
  have htl:((es.map (aD.tw lo)).take i).length=i:=by simp;omega
  repeat' (first|refine V_ ?_|(refine ak ?_;intro ss bb)|refine ac ?_|refine zU ?_|refine ai hG hst (c1) ?_|refine ai hG hst (c3) ?_|refine ai hG hst (c4b) ?_|refine ai hG hst (c2) ?_)
  clear hrp c1 c2 c3 c4b
  generalize ss=s4;generalize bb=b4
  apply ap (X:=Nat) [1,3,4,61,62,63,117,118] (fun k=>[(119,.int .i64 (k:Int))]) (fun _=>[(s4,b4,.box [.int .i64 ow,.bool ec,.str sel,.int .i64 (p:Int)])]) (fun k=>k<=i/\∀y∈es.take k,¬ fi ⟨ow,ec,sel,p⟩ y) (fun k=>i - k) 0 ⟨Ze _,by simp⟩
  exact kp_;exact nw_
  ·exact .refl _
  rintro k ⟨hki,hkn⟩
  try dsimp only
  by_cases hlk:k<i
  ·have hlk2:k<es.length:=by omega
   have hrk:((es.map (aD.tw lo)).take i)[k]?=some [.int .i64 es[k].owner,.bool es[k].class_,.str es[k].selector,.int .i64 es[k].code]:=by rw[List.getElem?_take_of_lt hlk];exact jT hlk2
   have hta:=aY (p:=fun y=>¬ fi ⟨ow,ec,sel,p⟩ y) hlk2 hkn
   have hmem:es[k]∈es.take i:=List.mem_take_iff_getElem.2 ⟨k,by omega,rfl⟩
   generalize es[k]=z at hrk hta hmem
   obtain⟨zo,zc,zs,zd⟩:=z
   dsimp only at hrk
   by_cases hz:fi ⟨ow,ec,sel,p⟩ ⟨zo,zc,zs,zd⟩
   ·rw[hbad fun h=>h.2 _ hmem hz]
    obtain⟨z1,z2,z3⟩:=hz
    dsimp only at z1 z2 z3
    have z4:(ec == zc)=true:=by rw[z2];simp
    clear hbad hks hta
    repeat' (first|refine W_ ?_|(refine ak ?_;intro ss bb)|refine ac ?_|refine c_ (fun hc=>?_) (fun hc=>?_)|refine g_ (fun hg=>?_) (fun hg=>?_))
    all_goals first
      | (exact r1_)
      | (exfalso;simp_all;done)
   ·have hnx:=hta hz
    unfold fi at hz
    dsimp only at hz
    repeat' (first|refine W_ ?_|(refine ak ?_;intro ss bb)|refine ac ?_|refine c_ (fun hc=>?_) (fun hc=>?_)|refine g_ (fun hg=>?_) (fun hg=>?_))
    all_goals first
      | exact ah (k+1) ⟨by omega,hnx⟩ (by omega) (.of _ nw_ od_ pk_)
      | (exfalso;clear hbad hks hta hnx;simp_all;done)
  ·obtain rfl:k=i:=by omega
   repeat' refine W_ ?_
   exact ah (k+1) ⟨by omega,hks ⟨⟨⟨g1,g2,g3⟩,hpp.2 ⟨rfl,g5⟩⟩,hkn⟩⟩ (by omega) (.of _ nw_ od_ (bS.nil _))
 have hgood:f8 cl.length cs es=true:=by
   rw[lK fun j hj=>hk j (by omega)]
   exact decide_eq_true (by omega)
 clear hk
 have c6:=uM hst lo (.sl lo 3 (cl.map (aa.tw lo))) (.sl lo 4 (es.map (aD.tw lo))) cs (q:Int) (by omega) hcs
 unfold aeC at c6
 cases hR:fJ cs
 case none =>
   rw[hR] at c6
   have hf:V=false:=hvF fun h=>by
     obtain⟨o,ho,_⟩:=h.2.2.2.2
     rw[hR] at ho;cases ho
   rw[hf]
   clear hvF hvT
   replace c6:Ct Tryz.prog GL 103 [.agg [.sl lo 3 (cl.map (aa.tw lo)),.sl lo 4 (cs.map (aB.tw lo)),.sl lo 4 (es.map (aD.tw lo)),.int .i64 (q:Int)]] (fun K=>.tup [.sl K 1 [],.bool false]):=c6
   repeat' (first|refine W_ ?_|refine ae hG hst (c6) ?_)
   exact r1_
 case some o =>
   rw[hR] at c6
   replace c6:Ct Tryz.prog GL 103 [.agg [.sl lo 3 (cl.map (aa.tw lo)),.sl lo 4 (cs.map (aB.tw lo)),.sl lo 4 (es.map (aD.tw lo)),.int .i64 (q:Int)]] (fun K=>.tup [.sl K 1 (aS o),.bool true]):=c6
   obtain⟨hinv,hfit⟩:=kz hR
   have hvF2:∀(i:Nat) (hi:i<cs.length),¬ gU cs cl.length o i cs[i]->V=false:=fun i hi h=>hvF fun k=>by
     obtain⟨o',ho',hc'⟩:=k.2.2.2.2
     rw[hR] at ho';cases ho'
     exact h (hc' i hi)
   have hvT2:sX cs cl.length o->V=true:=fun h=>hvT ⟨h1,h2,⟨h3,hhead⟩,hgood,o,hR,h⟩
   clear hvF hvT hR hgood hhead
   repeat' (first|refine W_ ?_|refine ae hG hst (c6) ?_)
   apply ap (X:=Nat) [1,7,152,153] (fun i=>[(154,.int .i64 (i:Int))]) (fun _=>[]) (fun i=>i<=cs.length/\∀j,j<i->∀h:j<cs.length,gU cs cl.length o j cs[j]) (fun i=>cs.length - i) 0 ⟨Ze _,by omega⟩
   exact kp_;exact nw_
   ·exact .refl _
   rintro i ⟨hi,ha⟩
   try dsimp only
   by_cases hlt:i<cs.length
   ·have hg:cs[i]?=some cs[i]:=Za hlt
    have hra:=cj (lo:=lo) hlt
    have hsm:=hcs.2 _ (Zb hlt)
    have hbad:=hvF2 i hlt
    have hnx:gU cs cl.length o i cs[i]->∀j,j<i+1->∀h:j<cs.length,gU cs cl.length o j cs[j]:=fun ho=>cH ha fun _=>ho
    have hiq:=fun(hsl:0<=(cs[i]'hlt).slots/\(cs[i]'hlt).slots<=30) (x:am) (hx:x.text.size<=1048576)=>zL hst ahy lo w0.heap.size cl (.sl lo 4 (es.map (aD.tw lo))) cs (q:Int) hcll hcs o hinv i (cs[i]'hlt) hg hsl x hx
    clear hvF2 hvT2 ha hg
    unfold gU sJ at hbad hnx
    generalize hBB:fQ cs cl.length o i cs[i]=B at hbad hnx hiq
    clear hBB
    generalize cs[i]=c at hra hsm hbad hnx hiq
    obtain⟨bl,pr,sl,is⟩:=c
    dsimp only at hra hbad hnx hiq
    have hn:is.length<=1048576:=hsm.1
    have ht:∀i∈is,i.text.size<=1048576:=hsm.2
    have hil:=am.len lo is
    have hdep:=kd hst ah5 lo bl pr sl is hn ht
    have hnew:=aa4 (cx is)
    rw[lT lo] at hdep
    unfold dR dO at hdep hnew
    generalize (cx is).getD []=ds at hdep hnew
    generalize (cx is).isSome=ok at hdep hnew hbad hnx
    have d1:=aP (G:=GL) sl 0 30
    have d2:=aP (G:=GL) pr 0 sl
    by_cases k0:ok=true
    case neg =>
      rw[hbad fun h=>k0 h.2.2]
      rw[Bool.eq_false_iff.2 k0] at hdep hnew
      repeat' (first|refine W_ ?_|(refine ak ?_;intro ss bb)|refine ac ?_|((with_reducible apply ij);rfl;kernel_rfl;exact hG;exact hst;exact hdep;((repeat (first|exact bU.nil|((with_reducible apply bU.cons);rfl;(first|with_reducible exact cy.same _|((with_reducible apply cy.msAll);(repeat (first|with_reducible exact mh|with_reducible refine mt ?_));(first|with_reducible assumption|exact aI _|exact aj _|exact aH _|exact Zf _|assumption|rfl))|((with_reducible apply dS);(repeat (first|with_reducible exact mh|with_reducible refine mt ?_));(first|with_reducible assumption|exact aI _|exact aj _|exact aH _|exact Zf _|assumption|rfl))|((with_reducible apply cy.cut);exact cy.cp0 _ _;rfl))))));exact hnew;rintro ⟨ss,bb⟩ -;refine bO ?_))
      exact r1_
    subst k0
    by_cases k1:inR sl 0 30=true
    case neg =>
      rw[hbad fun h=>k1 h.1.1]
      rw[Bool.eq_false_iff.2 k1] at d1
      repeat' (first|refine W_ ?_|(refine ak ?_;intro ss bb)|refine ac ?_|refine ae hG hst (d1) ?_|((with_reducible apply ij);rfl;kernel_rfl;exact hG;exact hst;exact hdep;((repeat (first|exact bU.nil|((with_reducible apply bU.cons);rfl;(first|with_reducible exact cy.same _|((with_reducible apply cy.msAll);(repeat (first|with_reducible exact mh|with_reducible refine mt ?_));(first|with_reducible assumption|exact aI _|exact aj _|exact aH _|exact Zf _|assumption|rfl))|((with_reducible apply dS);(repeat (first|with_reducible exact mh|with_reducible refine mt ?_));(first|with_reducible assumption|exact aI _|exact aj _|exact aH _|exact Zf _|assumption|rfl))|((with_reducible apply cy.cut);exact cy.cp0 _ _;rfl))))));exact hnew;rintro ⟨ss,bb⟩ -;refine bO ?_))
      exact r1_
    by_cases k2:inR pr 0 sl=true
    case neg =>
      rw[hbad fun h=>k2 h.1.2.1]
      rw[k1] at d1
      rw[Bool.eq_false_iff.2 k2] at d2
      repeat' (first|refine W_ ?_|(refine ak ?_;intro ss bb)|refine ac ?_|refine ae hG hst (d1) ?_|refine ae hG hst (d2) ?_|((with_reducible apply ij);rfl;kernel_rfl;exact hG;exact hst;exact hdep;((repeat (first|exact bU.nil|((with_reducible apply bU.cons);rfl;(first|with_reducible exact cy.same _|((with_reducible apply cy.msAll);(repeat (first|with_reducible exact mh|with_reducible refine mt ?_));(first|with_reducible assumption|exact aI _|exact aj _|exact aH _|exact Zf _|assumption|rfl))|((with_reducible apply dS);(repeat (first|with_reducible exact mh|with_reducible refine mt ?_));(first|with_reducible assumption|exact aI _|exact aj _|exact aH _|exact Zf _|assumption|rfl))|((with_reducible apply cy.cut);exact cy.cp0 _ _;rfl))))));exact hnew;rintro ⟨ss,bb⟩ -;refine bO ?_))
      exact r1_
    rw[k1] at d1
    rw[k2] at d2
    by_cases k3:is.length<=900
    case neg =>
      rw[hbad fun h=>k3 h.1.2.2]
      repeat' (first|refine W_ ?_|(refine ak ?_;intro ss bb)|refine ac ?_|refine ae hG hst (d1) ?_|refine ae hG hst (d2) ?_|((with_reducible apply ij);rfl;kernel_rfl;exact hG;exact hst;exact hdep;((repeat (first|exact bU.nil|((with_reducible apply bU.cons);rfl;(first|with_reducible exact cy.same _|((with_reducible apply cy.msAll);(repeat (first|with_reducible exact mh|with_reducible refine mt ?_));(first|with_reducible assumption|exact aI _|exact aj _|exact aH _|exact Zf _|assumption|rfl))|((with_reducible apply dS);(repeat (first|with_reducible exact mh|with_reducible refine mt ?_));(first|with_reducible assumption|exact aI _|exact aj _|exact aH _|exact Zf _|assumption|rfl))|((with_reducible apply cy.cut);exact cy.cp0 _ _;rfl))))));exact hnew;rintro ⟨ss,bb⟩ -;refine bO ?_))
      exact r1_
    have hsl:=of_decide_eq_true k1
    repeat' (first|refine W_ ?_|(refine ak ?_;intro ss bb)|refine ac ?_|refine ae hG hst (d1) ?_|refine ae hG hst (d2) ?_|((with_reducible apply ij);rfl;kernel_rfl;exact hG;exact hst;exact hdep;((repeat (first|exact bU.nil|((with_reducible apply bU.cons);rfl;(first|with_reducible exact cy.same _|((with_reducible apply cy.msAll);(repeat (first|with_reducible exact mh|with_reducible refine mt ?_));(first|with_reducible assumption|exact aI _|exact aj _|exact aH _|exact Zf _|assumption|rfl))|((with_reducible apply dS);(repeat (first|with_reducible exact mh|with_reducible refine mt ?_));(first|with_reducible assumption|exact aI _|exact aj _|exact aH _|exact Zf _|assumption|rfl))|((with_reducible apply cy.cut);exact cy.cp0 _ _;rfl))))));exact hnew;rintro ⟨ss,bb⟩ -;refine bO ?_))
    clear hdep hnew d1 d2
    apply ap (X:=Nat) [1,7,9,152,153,154,187,188] (fun p=>[(189,.int .i64 (p:Int))]) (fun _=>[]) (fun p=>p<=is.length/\∀j,j<p->∀h:j<is.length,B is[j]=true) (fun p=>is.length - p) 0 ⟨Ze _,by omega⟩
    exact kp_;exact nw_
    ·exact .nil _
    rintro p ⟨hp,hpa⟩
    try dsimp only
    by_cases hlp:p<is.length
    ·have hrp:=jW (lo:=lo) hlp
     have hmem:is[p]∈is:=Zb hlp
     have hxq:=ht _ hmem
     have hct:=hiq hsl is[p] hxq
     have hny:B is[p]=true->∀j,j<p+1->∀h:j<is.length,B is[j]=true:=fun h=>cH hpa fun _=>h
     have hbd:B is[p]=false->V=false:=fun h=>hbad fun k=>by
       have:=k.2.1 _ hmem
       rw[h] at this;cases this
     clear hiq hbad hnx
     generalize is[p]=x at hrp hct hny hbd
     cases hBx:B x
     ·rw[hBx] at hct
      rw[hbd hBx]
      repeat' (first|refine W_ ?_|(refine ak ?_;intro ss bb)|refine ac ?_|refine ae hG hst (hct) ?_)
      exact r1_
     ·rw[hBx] at hct
      repeat' (first|refine W_ ?_|(refine ak ?_;intro ss bb)|refine ac ?_|refine ae hG hst (hct) ?_)
      exact ah (p+1) ⟨by omega,hny hBx⟩ (by omega) (.of _ nw_ od_ (bS.nil _))
    ·have hall:∀y∈is,B y=true:=fun y hy=>by
       obtain⟨j,hj,rfl⟩:=ZD hy
       exact hpa j (by omega) hj
     have hnz:=hnx ⟨⟨k1,k2,k3⟩,hall,rfl⟩
     repeat' refine W_ ?_
     exact ah (i+1) ⟨by omega,hnz⟩ (by omega) (.of _ nw_ od_ (bS.nil _))
   ·rw[hvT2 fun j hj=>ha j (by omega) hj]
    repeat' refine W_ ?_
    exact r1_
end Go.Proofs.YtifcomgnmokimaaGreatDoor
