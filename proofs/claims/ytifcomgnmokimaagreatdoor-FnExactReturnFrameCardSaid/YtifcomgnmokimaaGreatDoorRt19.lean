/- Part 19 of the proof: the texts IvI. -/
import Derived.Test.YtifcomgnmokimaaGreatDoorRt3
import Derived.Test.YtifcomgnmokimaaGreatDoorRt15
set_option linter.all false
set_option maxHeartbeats 4000000
set_option maxRecDepth 20000
namespace Go.Proofs.YtifcomgnmokimaaGreatDoor
open Go Go.RowKit
section
variable {G:World->Prop}
theorem sm (hst:ay G) (hse:∀s:ByteArray,s.size<=1048576->Ct Tryz.prog G 163 [.str s] (fun _=>.bool (di s.data.toList))) (hca:∀s:ByteArray,s.size<=1048576->Ct Tryz.prog G 223 [.str s] (fun _=>.int .i64 (cz s.data.toList)))
   (f lo:Nat) (cl:List aa) (cs:List aB) (es:List aD) (mn:Int) (hcl:cl.length<=1048576) (hcs:cs.length<=1048576) (hes:es.length<=1048576/\∀y∈es,aD.small 1048576 y) :
   Ct Tryz.prog G 160 [.cp f [.sl lo 3 (cl.map (aa.tw lo)),.sl lo 4 (cs.map (aB.tw lo)),.sl lo 4 (es.map (aD.tw lo)),.int .i64 mn]] (fun _=>.bool (f8 cl.length cs es)):=by
 refine av Tryz.func160 rfl Tryz.ntmps160 rfl rfl fun w0 _ hG=>?_
 have hl1:=aa.len lo cl
 have hl2:=aB.len lo cs
 have hl3:=aD.len lo es
 have hel:=hes.1
 repeat' refine W_ ?_
 apply ap (X:=Nat) [0] (fun i=>[(3,.int .i64 (i:Int))]) (fun _=>[]) (fun i=>i<=es.length/\∀j,j<i->∀h:j<es.length,fF cl.length cs es[j]/\ei es j es[j]) (fun i=>es.length - i) 0 ⟨Ze _,by omega⟩
 exact kp_;exact nw_
 ·exact .nil _
 rintro i ⟨hi,hk⟩
 try dsimp only
 by_cases hlt:i<es.length
 ·have hra:=jT (lo:=lo) hlt
  have hsm:=hes.2 _ (Zb hlt)
  have hbad:¬ (fF cl.length cs es[i]/\ei es i es[i])->f8 cl.length cs es=false:=nl hlt
  have hks:fF cl.length cs es[i]/\ei es i es[i]->∀j,j<i+1->∀h:j<es.length,fF cl.length cs es[j]/\ei es j es[j]:=fun ho=>cH hk fun _=>ho
  generalize es[i]=e at hra hsm hbad hks
  obtain⟨ow,ec,sel,cd⟩:=e
  dsimp only at hra
  have hss:sel.size<=1048576:=hsm
  have c1:=hse sel hss
  have c2:=hca sel hss
  have c3:=bC (G:=G) ow 16 ((cl.length:Int) - 1)
  have c4:=bC (G:=G) cd 0 ((cs.length:Int) - 1)
  by_cases h1:di sel.data.toList=true
  case neg =>
    rw[hbad fun h=>h1 h.1.1.1]
    rw[Bool.eq_false_iff.2 h1] at c1
    repeat' (first|refine V_ ?_|(refine ak ?_;intro ss bb)|refine ac ?_|refine ai hG hst (c1) ?_)
    exact r1_
  by_cases h2:inR ow 16 ((cl.length:Int) - 1)=true
  case neg =>
    rw[hbad fun h=>h2 h.1.1.2.1]
    rw[h1] at c1
    rw[Bool.eq_false_iff.2 h2] at c3
    repeat' (first|refine V_ ?_|(refine ak ?_;intro ss bb)|refine ac ?_|refine ai hG hst (c1) ?_|refine ai hG hst (c3) ?_)
    exact r1_
  by_cases h3:inR cd 0 ((cs.length:Int) - 1)=true
  case neg =>
    rw[hbad fun h=>h3 h.1.1.2.2]
    rw[h1] at c1
    rw[h2] at c3
    rw[Bool.eq_false_iff.2 h3] at c4
    repeat' (first|refine V_ ?_|(refine ak ?_;intro ss bb)|refine ac ?_|refine ai hG hst (c1) ?_|refine ai hG hst (c3) ?_|refine ai hG hst (c4) ?_)
    exact r1_
  have h3':=of_decide_eq_true h3
  obtain⟨q,rfl⟩:∃q:Nat,cd=q:=⟨cd.toNat,by omega⟩
  have hql:q<cs.length:=by omega
  have hrq:=cj (lo:=lo) hql
  have hpl:=iW (n:=cz sel.data.toList) rfl (Za hql)
  generalize cs[q]=y at hrq hpl
  obtain⟨yb,yp,ys,yi⟩:=y
  dsimp only at hrq hpl
  rw[h1] at c1
  rw[h2] at c3
  rw[h3,show (cs.length:Int) - 1=((cs.length - 1:Nat):Int) by omega] at c4
  cases yb
  case true =>
    rw[hbad fun h=>by have:=hpl.1 h.1.2;cases this.1]
    repeat' (first|refine V_ ?_|(refine ak ?_;intro ss bb)|refine ac ?_|refine ai hG hst (c1) ?_|refine ai hG hst (c3) ?_|refine ai hG hst (c4) ?_)
    exact r1_
  by_cases h5:yp=cz sel.data.toList
  case neg =>
    rw[hbad fun h=>by have:=hpl.1 h.1.2;exact h5 this.2]
    repeat' (first|refine V_ ?_|(refine ak ?_;intro ss bb)|refine ac ?_|refine ai hG hst (c1) ?_|refine ai hG hst (c3) ?_|refine ai hG hst (c4) ?_|refine ai hG hst (c2) ?_)
    exact r1_
  have h5':¬ yp≠cz sel.data.toList:=fun h=>h h5
  repeat' (first|refine V_ ?_|(refine ak ?_;intro ss bb)|refine ac ?_|refine ai hG hst (c1) ?_|refine ai hG hst (c3) ?_|refine ai hG hst (c4) ?_|refine ai hG hst (c2) ?_)
  apply ap (X:=Nat) [0,3,4] (fun k=>[(5,.int .i64 (k:Int))]) (fun _=>[(ss,bb,.box [.int .i64 ow,.bool ec,.str sel,.int .i64 (q:Int)])]) (fun k=>k<=i/\∀y∈es.take k,¬ fi ⟨ow,ec,sel,q⟩ y) (fun k=>i - k) 0 ⟨Ze _,by simp⟩
  exact kp_;exact nw_
  ·exact .refl _
  rintro k ⟨hki,hkn⟩
  try dsimp only
  by_cases hlk:k<i
  ·have hlk2:k<es.length:=by omega
   have hrk:=jT (lo:=lo) hlk2
   have hta:=aY (p:=fun y=>¬ fi ⟨ow,ec,sel,q⟩ y) hlk2 hkn
   have hmem:es[k]∈es.take i:=List.mem_take_iff_getElem.2 ⟨k,by omega,rfl⟩
   generalize es[k]=z at hrk hta hmem
   obtain⟨zo,zc,zs,zd⟩:=z
   dsimp only at hrk
   by_cases hz:fi ⟨ow,ec,sel,q⟩ ⟨zo,zc,zs,zd⟩
   ·rw[hbad fun h=>h.2 _ hmem hz]
    obtain⟨z1,z2,z3⟩:=hz
    dsimp only at z1 z2 z3
    have z4:(zc == ec)=true:=by rw[z2];simp
    repeat' (first|refine V_ ?_|refine c_ (fun hc=>?_) (fun hc=>?_))
    all_goals first
      | (exfalso;simp_all;done)
      | (exact r1_)
   ·have hnx:=hta hz
    unfold fi at hz
    dsimp only at hz
    repeat' (first|refine V_ ?_|refine c_ (fun hc=>?_) (fun hc=>?_)|refine g_ (fun hg=>?_) (fun hg=>?_))
    all_goals first
      | exact ah (k+1) ⟨by omega,hnx⟩ (by omega) (.of _ nw_ od_ pk_)
      | (exfalso;simp_all;done)
  ·obtain rfl:k=i:=by omega
   repeat' refine W_ ?_
   exact ah (k+1) ⟨by omega,hks ⟨⟨⟨h1,h2,h3⟩,hpl.2 ⟨rfl,h5⟩⟩,hkn⟩⟩ (by omega) (.of _ nw_ od_ (bS.nil _))
 ·rw[lK fun j hj=>hk j (by omega)]
  repeat' refine W_ ?_
  exact r1_
end
end Go.Proofs.YtifcomgnmokimaaGreatDoor
