/- Part 19 of the proof: the texts IvI. -/
import Derived.Test.YtofnnnpahglfdaaGreatDoorCo3
import Derived.Test.YtofnnnpahglfdaaGreatDoorCo15
set_option linter.all false
set_option maxHeartbeats 4000000
set_option maxRecDepth 20000
namespace Go.Proofs.YtofnnnpahglfdaaGreatDoor
open Go Go.RowKit
section
variable {G:World->Prop}
theorem tD (hst:aC G) (hse:∀s:ByteArray,s.size<=1048576->Ct Tryz.prog G 182 [.str s] (fun _=>.bool (cY s.data.toList))) (hca:∀s:ByteArray,s.size<=1048576->Ct Tryz.prog G 242 [.str s] (fun _=>.int .i64 (co s.data.toList)))
   (f lo:Nat) (cl:List aa) (cs:List aH) (es:List aF) (mn:Int) (hcl:cl.length<=1048576) (hcs:cs.length<=1048576) (hes:es.length<=1048576/\∀y∈es,aF.small 1048576 y) :
   Ct Tryz.prog G 178 [.cp f [.sl lo 3 (cl.map (aa.tw lo)),.sl lo 4 (cs.map (aH.tw lo)),.sl lo 4 (es.map (aF.tw lo)),.int .i64 mn]] (fun _=>.bool (fW cl.length cs es)):=by
 refine au Tryz.func178 rfl Tryz.ntmps178 rfl rfl fun w0 _ hG=>?_
 have hl1:=aa.len lo cl
 have hl2:=aH.len lo cs
 have hl3:=aF.len lo es
 have hel:=hes.1
 repeat' refine W_ ?_
 apply aj (X:=Nat) [0] (fun i=>[(3,.int .i64 (i:Int))]) (fun _=>[]) (fun i=>i<=es.length/\∀j,j<i->∀h:j<es.length,fw cl.length cs es[j]/\dZ es j es[j]) (fun i=>es.length - i) 0 ⟨Zd _,by omega⟩
 exact kp_;exact nw_
 ·exact .nil _
 rintro i ⟨hi,hk⟩
 try dsimp only
 by_cases hlt:i<es.length
 ·have hra:=jM (lo:=lo) hlt
  have hsm:=hes.2 _ (Zb hlt)
  have hbad:¬ (fw cl.length cs es[i]/\dZ es i es[i])->fW cl.length cs es=false:=mH hlt
  have hks:fw cl.length cs es[i]/\dZ es i es[i]->∀j,j<i+1->∀h:j<es.length,fw cl.length cs es[j]/\dZ es j es[j]:=fun ho=>cy hk fun _=>ho
  generalize es[i]=e at hra hsm hbad hks
  obtain⟨ow,ec,sel,cd⟩:=e
  dsimp only at hra
  have hss:sel.size<=1048576:=hsm
  have c1:=hse sel hss
  have c2:=hca sel hss
  have c3:=bA (G:=G) ow 16 ((cl.length:Int) - 1)
  have c4:=bA (G:=G) cd 0 ((cs.length:Int) - 1)
  by_cases h1:cY sel.data.toList=true
  case neg =>
    rw[hbad fun h=>h1 h.1.1.1]
    rw[Bool.eq_false_iff.2 h1] at c1
    repeat' (first|refine V_ ?_|(refine am ?_;intro ss bb)|refine ac ?_|refine ai hG hst (c1) ?_)
    exact r1_
  by_cases h2:inR ow 16 ((cl.length:Int) - 1)=true
  case neg =>
    rw[hbad fun h=>h2 h.1.1.2.1]
    rw[h1] at c1
    rw[Bool.eq_false_iff.2 h2] at c3
    repeat' (first|refine V_ ?_|(refine am ?_;intro ss bb)|refine ac ?_|refine ai hG hst (c1) ?_|refine ai hG hst (c3) ?_)
    exact r1_
  by_cases h3:inR cd 0 ((cs.length:Int) - 1)=true
  case neg =>
    rw[hbad fun h=>h3 h.1.1.2.2]
    rw[h1] at c1
    rw[h2] at c3
    rw[Bool.eq_false_iff.2 h3] at c4
    repeat' (first|refine V_ ?_|(refine am ?_;intro ss bb)|refine ac ?_|refine ai hG hst (c1) ?_|refine ai hG hst (c3) ?_|refine ai hG hst (c4) ?_)
    exact r1_
  have h3':=of_decide_eq_true h3
  obtain⟨q,rfl⟩:∃q:Nat,cd=q:=⟨cd.toNat,by omega⟩
  have hql:q<cs.length:=by omega
  have hrq:=ca (lo:=lo) hql
  have hpl:=iM (n:=co sel.data.toList) rfl (Za hql)
  generalize cs[q]=y at hrq hpl
  obtain⟨yb,yp,ys,yi⟩:=y
  dsimp only at hrq hpl
  rw[h1] at c1
  rw[h2] at c3
  rw[h3,show (cs.length:Int) - 1=((cs.length - 1:Nat):Int) by omega] at c4
  cases yb
  case true =>
    rw[hbad fun h=>by have:=hpl.1 h.1.2;cases this.1]
    repeat' (first|refine V_ ?_|(refine am ?_;intro ss bb)|refine ac ?_|refine ai hG hst (c1) ?_|refine ai hG hst (c3) ?_|refine ai hG hst (c4) ?_)
    exact r1_
  by_cases h5:yp=co sel.data.toList
  case neg =>
    rw[hbad fun h=>by have:=hpl.1 h.1.2;exact h5 this.2]
    repeat' (first|refine V_ ?_|(refine am ?_;intro ss bb)|refine ac ?_|refine ai hG hst (c1) ?_|refine ai hG hst (c3) ?_|refine ai hG hst (c4) ?_|refine ai hG hst (c2) ?_)
    exact r1_
  have h5':¬ yp≠co sel.data.toList:=fun h=>h h5
  repeat' (first|refine V_ ?_|(refine am ?_;intro ss bb)|refine ac ?_|refine ai hG hst (c1) ?_|refine ai hG hst (c3) ?_|refine ai hG hst (c4) ?_|refine ai hG hst (c2) ?_)
  apply aj (X:=Nat) [0,3,4] (fun k=>[(5,.int .i64 (k:Int))]) (fun _=>[(ss,bb,.box [.int .i64 ow,.bool ec,.str sel,.int .i64 (q:Int)])]) (fun k=>k<=i/\∀y∈es.take k,¬ eL ⟨ow,ec,sel,q⟩ y) (fun k=>i - k) 0 ⟨Zd _,by simp⟩
  exact kp_;exact nw_
  ·exact .refl _
  rintro k ⟨hki,hkn⟩
  try dsimp only
  by_cases hlk:k<i
  ·have hlk2:k<es.length:=by omega
   have hrk:=jM (lo:=lo) hlk2
   have hta:=bu (p:=fun y=>¬ eL ⟨ow,ec,sel,q⟩ y) hlk2 hkn
   have hmem:es[k]∈es.take i:=List.mem_take_iff_getElem.2 ⟨k,by omega,rfl⟩
   generalize es[k]=z at hrk hta hmem
   obtain⟨zo,zc,zs,zd⟩:=z
   dsimp only at hrk
   by_cases hz:eL ⟨ow,ec,sel,q⟩ ⟨zo,zc,zs,zd⟩
   ·rw[hbad fun h=>h.2 _ hmem hz]
    obtain⟨z1,z2,z3⟩:=hz
    dsimp only at z1 z2 z3
    have z4:(zc == ec)=true:=by rw[z2];simp
    repeat' (first|refine V_ ?_|refine c_ (fun hc=>?_) (fun hc=>?_))
    all_goals first
      | (exfalso;simp_all;done)
      | (exact r1_)
   ·have hnx:=hta hz
    unfold eL at hz
    dsimp only at hz
    repeat' (first|refine V_ ?_|refine c_ (fun hc=>?_) (fun hc=>?_)|refine g_ (fun hg=>?_) (fun hg=>?_))
    all_goals first
      | exact ag (k+1) ⟨by omega,hnx⟩ (by omega) (.of _ nw_ od_ pk_)
      | (exfalso;simp_all;done)
  ·obtain rfl:k=i:=by omega
   repeat' refine W_ ?_
   exact ag (k+1) ⟨by omega,hks ⟨⟨⟨h1,h2,h3⟩,hpl.2 ⟨rfl,h5⟩⟩,hkn⟩⟩ (by omega) (.of _ nw_ od_ (bW.nil _))
 ·rw[kR fun j hj=>hk j (by omega)]
  repeat' refine W_ ?_
  exact r1_
end
end Go.Proofs.YtofnnnpahglfdaaGreatDoor
